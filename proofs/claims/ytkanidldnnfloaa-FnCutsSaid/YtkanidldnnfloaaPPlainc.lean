/- A part of the proof: Plainc. No conditions. -/
import Derived.Test.YtkanidldnnfloaaPIt3c
import Derived.Test.YtkanidldnnfloaaPG7
set_option linter.unusedVariables false
set_option linter.unusedSimpArgs false
namespace Go.Proofs.Ytkanidldnnfloaa.P.It
open Am
theorem wrap_id {x : Int} (h1 : -9223372036854775808 ≤ x) (h2 : x ≤ 9223372036854775807) : IntKind.i64.wrap x = x := by
  rw [IntKind.wrap_i64]; omega

theorem getI_ok {α : Type} {xs : List α} {i : Nat} (h : i < xs.length) : getI xs (i : Int) = some xs[i] := by
  unfold getI
  rw [if_pos (by omega)]
  simp [h]

/-! ### numbers -/
def numB (a : Int) : Bool := decide (-400000000 ≤ a) && decide (a ≤ 400000000)
theorem Ss_l1In_val (a b c : Int) : Ss_l1In a b c = some ((decide (b ≤ a) && decide (a ≤ c), ()), ()) := by
  rw [Ss_l1In_eq]
  by_cases h : a ≥ b
  · simp [h]
  · simp [h]
theorem Ss_IsNumber_val (a : Int) : Ss_IsNumber a = some ((numB a, ()), ()) := by
  rw [Ss_IsNumber_eq, Ss_l1In_val, Option.bind_some]; rfl
theorem Si_IsNumber_val (a : Int) : Si_IsNumber a = some ((numB a, ()), ()) := by
  rw [Si_IsNumber_eq]
  unfold numB
  by_cases h : a ≥ -400000000
  · simp [h]
  · simp [h]
theorem Si_absolute_val {a : Int} (h : numB a = true) : Si_absolute a = some (((a.natAbs : Int), ()), ()) := by
  simp only [numB, Bool.and_eq_true, decide_eq_true_eq] at h
  rw [Si_absolute_eq]
  by_cases h0 : a < 0
  · simp only [h0, decide_true, cond_true]
    rw [wrap_id (by omega) (by omega)]
    congr 3; omega
  · simp only [h0, decide_false, cond_false]
    congr 3; omega
theorem Ss_l1Abs_val {a : Int} (h : numB a = true) : Ss_l1Abs a = some (((a.natAbs : Int), ()), ()) := by
  simp only [numB, Bool.and_eq_true, decide_eq_true_eq] at h
  rw [Ss_l1Abs_eq]
  rw [wrap_id (by omega) (by omega)]
  simp only [cond_true]
  congr 3
  split <;> omega

theorem tmod_num {a b : Int} (ha : numB a = true) (hb : b ≠ 0) : numB (Int.tmod a b) = true := by
  simp only [numB, Bool.and_eq_true, decide_eq_true_eq] at ha ⊢
  have h1 := Int.natAbs_tmod a b
  have h2 : a.natAbs % b.natAbs ≤ a.natAbs := Nat.mod_le _ _
  omega

theorem L104_val : ∀ (n : Nat) (a b : Int), b.natAbs ≤ n → numB a = true → numB b = true → Ls_GcdOf_3 a b = some ((((Nat.gcd a.natAbs b.natAbs : Nat) : Int), ()), ())
  | n, a, b, hn, ha, hb => by
    rw [Ls_GcdOf_3_eq]
    by_cases h0 : b = 0
    · subst h0
      simp only [bne_self_eq_false, cond_false, Ss_l1Abs_val ha, Option.bind_some]
      simp
    · have : (b != 0) = true := by simpa using h0
      rw [this, cond_true, cond_true]
      have hlt : a.natAbs % b.natAbs < b.natAbs := Nat.mod_lt _ (by omega)
      have hm := Int.natAbs_tmod a b
      cases n with
      | zero => omega
      | succ n =>
        rw [L104_val n b (Int.tmod a b) (by omega) hb (tmod_num ha h0), hm]
        congr 4
        rw [Nat.gcd_comm a.natAbs, Nat.gcd_rec b.natAbs a.natAbs, Nat.gcd_comm]
  termination_by n => n

theorem L114_val : ∀ (n : Nat) (a b : Int), b.natAbs ≤ n → 0 ≤ a → 0 ≤ b → Li_commonDivisor_2 a b = some ((((Nat.gcd a.natAbs b.natAbs : Nat) : Int), ()), ())
  | n, a, b, hn, ha, hb => by
    rw [Li_commonDivisor_2_eq]
    by_cases h0 : b = 0
    · subst h0
      simp only [bne_self_eq_false, cond_false]
      simp
      omega
    · have : (b != 0) = true := by simpa using h0
      rw [this, cond_true, cond_true]
      have hlt : a.natAbs % b.natAbs < b.natAbs := Nat.mod_lt _ (by omega)
      have hm := Int.natAbs_tmod a b
      cases n with
      | zero => omega
      | succ n =>
        rw [L114_val n b (Int.tmod a b) (by omega) hb (Int.tmod_nonneg _ ha), hm]
        congr 4
        rw [Nat.gcd_comm a.natAbs, Nat.gcd_rec b.natAbs a.natAbs, Nat.gcd_comm]
  termination_by n => n

def gcdB (a b : Int) : Int := bif numB a && numB b then ((Nat.gcd a.natAbs b.natAbs : Nat) : Int) else 0
theorem Ss_GcdOf_val (a b : Int) : Ss_GcdOf a b = some ((gcdB a b, ()), ()) := by
  rw [Ss_GcdOf_eq, Ss_IsNumber_val, Ss_IsNumber_val]
  unfold gcdB
  cases ha : numB a <;> cases hb : numB b <;> simp only [Option.bind_some, Bool.not_true, Bool.not_false, cond_true, cond_false, Bool.and_true, Bool.and_false, Bool.and_self]
  exact L104_val _ a b (Nat.le_refl _) ha hb
theorem Si_GcdOf_val (a b : Int) : Si_GcdOf a b = some ((gcdB a b, ()), ()) := by
  rw [Si_GcdOf_eq, Si_IsNumber_val, Si_IsNumber_val]
  unfold gcdB
  cases ha : numB a <;> cases hb : numB b <;> simp only [Option.bind_some, Bool.not_true, Bool.not_false, cond_true, cond_false, Bool.and_true, Bool.and_false, Bool.and_self]
  rw [Si_commonDivisor_eq, Si_absolute_val ha, Si_absolute_val hb]
  simp only [Option.bind_some]
  rw [L114_val _ _ _ (Nat.le_refl _) (by omega) (by omega)]
  simp

def ratB (r : Int × Int) : Bool := decide (1 ≤ r.2) && decide (r.2 ≤ 400000000) && numB r.1 && (gcdB r.1 r.2 == 1)
theorem Ss_IsRatio_val (r : Int × Int) : Ss_IsRatio r = some ((ratB r, ()), ()) := by
  rw [Ss_IsRatio_eq, Ss_l1In_val, Ss_IsNumber_val, Ss_GcdOf_val]
  unfold ratB
  simp only [Option.bind_some]
  cases h1 : (decide (1 ≤ r.2) && decide (r.2 ≤ 400000000)) <;> cases h2 : numB r.1 <;> simp
theorem Si_IsRatio_val (r : Int × Int) : Si_IsRatio r = some ((ratB r, ()), ()) := by
  rw [Si_IsRatio_eq, Si_IsNumber_val, Si_GcdOf_val]
  unfold ratB
  simp only [Option.bind_some, ge_iff_le]
  cases h1 : decide (1 ≤ r.2) <;> cases h3 : decide (r.2 ≤ 400000000) <;> cases h2 : numB r.1 <;> simp

def lessB (a b : Int × Int) : Bool := decide (IntKind.i64.wrap (a.1 * b.2) < IntKind.i64.wrap (b.1 * a.2))
theorem Ss_l1Less_val (a b : Int × Int) : Ss_l1Less a b = some ((lessB a b, ()), ()) := Ss_l1Less_eq a b
theorem Si_CompareRatios_val {a b : Int × Int} (ha : ratB a = true) (hb : ratB b = true) : ∃ c, Si_CompareRatios a b = some ((c, ()), ()) ∧ (c != -1) = !lessB a b := by
  rw [Si_CompareRatios_eq, Si_IsRatio_val, Si_IsRatio_val]
  simp only [Option.bind_some, ha, hb, Bool.not_true, cond_false]
  change ∃ c, (bif lessB a b then _ else _) = _ ∧ _
  cases h : lessB a b with
  | true => exact ⟨-1, rfl, rfl⟩
  | false =>
    rw [cond_false]
    cases h2 : decide (IntKind.i64.wrap (a.1 * b.2) > IntKind.i64.wrap (b.1 * a.2)) with
    | true => exact ⟨1, rfl, rfl⟩
    | false => exact ⟨0, rfl, rfl⟩

/-! ### tracks -/
abbrev Stp := (Int × Int) × (Int × Int) × Int × Int
def trk (x : List Stp) : Nat → Nat → Bool
  | 0, _ => true
  | n + 1, i => (match x[i]? with
    | some s => ratB s.1 && ratB s.2.1 && ratB s.2.2 && (match i with
      | 0 => true
      | j + 1 => match x[j]? with
        | some s' => lessB s'.1 s.1
        | none => true)
    | none => true) && trk x n (i + 1)

theorem L14_val (x : List Stp) (hl : x.length ≤ 1048576) : ∀ (n i : Nat), n + i = x.length → Ls_IsTrack_2 x (i : Int) = some ((trk x n i && (decide (1 ≤ (x.length : Int)) && decide ((x.length : Int) ≤ 6)), ()), ())
  | 0, i, hn => by
    rw [Ls_IsTrack_2_eq]
    have : decide ((i : Int) < (x.length : Int)) = false := by simp; omega
    rw [this, cond_false, Ss_l1In_val]
    simp [trk]
  | n + 1, i, hn => by
    rw [Ls_IsTrack_2_eq]
    have hi : i < x.length := by omega
    have : decide ((i : Int) < (x.length : Int)) = true := by simp; omega
    rw [this, cond_true, getI_ok hi]
    simp only [Option.bind_some, Ss_IsRatio_val]
    rw [show IntKind.i64.wrap ((i : Int) + 1) = ((i + 1 : Nat) : Int) by rw [wrap_id] <;> omega, L14_val x hl n (i + 1) (by omega)]
    simp only [trk, List.getElem?_eq_getElem hi]
    cases h1 : ratB x[i].1 <;> cases h2 : ratB x[i].2.1 <;> cases h3 : ratB x[i].2.2 <;> simp
    cases i with
    | zero => simp
    | succ j =>
      have : (0 : Int) < ((j + 1 : Nat) : Int) := by omega
      simp only [this, decide_true, cond_true]
      rw [show IntKind.i64.wrap (((j + 1 : Nat) : Int) - 1) = ((j : Nat) : Int) by rw [wrap_id] <;> omega, getI_ok (by omega)]
      simp only [Option.bind_some, Ss_l1Less_val, List.getElem?_eq_getElem (show j < x.length by omega)]
      cases lessB x[j].1 x[j + 1].1 <;> simp

theorem L16_val (x : List Stp) (hl : x.length ≤ 1048576) : ∀ (n i : Nat), n + i = x.length → (∀ j (h : j < x.length), i = j + 1 → ratB x[j].1 = true) → Li_IsTrack_4 x x (x.length : Int) (i : Int) = some ((trk x n i, ()), ())
  | 0, i, hn, _ => by
    rw [Li_IsTrack_4_eq]
    have : decide ((i : Int) < (x.length : Int)) = false := by simp; omega
    rw [this, cond_false]
    rfl
  | n + 1, i, hn, hp => by
    rw [Li_IsTrack_4_eq]
    have hi : i < x.length := by omega
    have : decide ((i : Int) < (x.length : Int)) = true := by simp; omega
    rw [this, cond_true, getI_ok hi]
    simp only [Option.bind_some, Si_IsRatio_val]
    simp only [trk, List.getElem?_eq_getElem hi]
    cases h1 : ratB x[i].1
    · simp
    rw [show IntKind.i64.wrap ((i : Int) + 1) = ((i + 1 : Nat) : Int) by rw [wrap_id] <;> omega, L16_val x hl n (i + 1) (by omega) (fun j hj e => by
      have : j = i := by omega
      subst this
      exact h1)]
    cases h2 : ratB x[i].2.1 <;> cases h3 : ratB x[i].2.2 <;> simp
    cases i with
    | zero => simp
    | succ j =>
      have : (0 : Int) < ((j + 1 : Nat) : Int) := by omega
      simp only [this, decide_true, cond_true]
      rw [show IntKind.i64.wrap (((j + 1 : Nat) : Int) - 1) = ((j : Nat) : Int) by rw [wrap_id] <;> omega, getI_ok (by omega)]
      simp only [Option.bind_some, List.getElem?_eq_getElem (show j < x.length by omega)]
      obtain ⟨c, hc, hc2⟩ := Si_CompareRatios_val (hp j (by omega) rfl) h1
      rw [hc]
      simp only [Option.bind_some, hc2]
      cases lessB x[j].1 x[j + 1].1 <;> simp

theorem isTrack_same (x : List Stp) (hl : x.length ≤ 1048576) : ∃ b, Ss_IsTrack x = some ((b, ()), ()) ∧ Si_IsTrack x = some ((b, ()), ()) := by
  refine ⟨trk x x.length 0 && (decide (1 ≤ (x.length : Int)) && decide ((x.length : Int) ≤ 6)), ?_, ?_⟩
  · rw [Ss_IsTrack_eq]
    exact L14_val x hl x.length 0 (by omega)
  · rw [Si_IsTrack_eq]
    by_cases h1 : (x.length : Int) < 1
    · have : ¬ (1 ≤ (x.length : Int)) := by omega
      simp [h1, this]
    · by_cases h2 : (x.length : Int) > 6
      · have : ¬ ((x.length : Int) ≤ 6) := by omega
        simp only [h1, h2, decide_false, decide_true, cond_false, cond_true, this]
        simp
      · have e1 : 1 ≤ (x.length : Int) := by omega
        have e2 : (x.length : Int) ≤ 6 := by omega
        simp only [h1, h2, decide_false, cond_false, e1, e2, decide_true, Bool.and_self, Bool.and_true]
        exact L16_val x hl x.length 0 (by omega) (fun j _ e => by omega)

/-! ### ratios -/
theorem abs71 {a : Int} (h : a.natAbs ≤ 4000000000000000000) : Si_absolute a = some (((a.natAbs : Int), ()), ()) := by
  rw [Si_absolute_eq]
  by_cases h0 : a < 0
  · simp only [h0, decide_true, cond_true]
    rw [wrap_id (by omega) (by omega)]
    congr 3; omega
  · simp only [h0, decide_false, cond_false]
    congr 3; omega
theorem abs124 {a : Int} (h : a.natAbs ≤ 4000000000000000000) : Ss_l1Abs a = some (((a.natAbs : Int), ()), ()) := by
  rw [Ss_l1Abs_eq]
  rw [wrap_id (by omega) (by omega)]
  simp only [cond_true]
  congr 3
  split <;> omega

theorem tdiv_le (a b : Int) : (a.tdiv b).natAbs ≤ a.natAbs := by
  rw [Int.natAbs_tdiv]
  exact Nat.div_le_self _ _

def low (n d : Int) : Int × Int := bif ratB (n.tdiv (Nat.gcd n.natAbs d.natAbs : Nat), d.tdiv (Nat.gcd n.natAbs d.natAbs : Nat)) then (n.tdiv (Nat.gcd n.natAbs d.natAbs : Nat), d.tdiv (Nat.gcd n.natAbs d.natAbs : Nat)) else (0, 0)
def redB (n d : Int) : Int × Int := bif d == 0 then (0, 0) else bif decide (d < 0) then low (-n) (-d) else low n d

theorem L90_val : ∀ (k : Nat) (n d : Int) (x4 : Int × Int) (a b : Int), b.natAbs ≤ k → a.natAbs ≤ 4000000000000000000 → b.natAbs ≤ 4000000000000000000 → n.natAbs ≤ 4000000000000000000 → d.natAbs ≤ 4000000000000000000 →
    Nat.gcd a.natAbs b.natAbs = Nat.gcd n.natAbs d.natAbs → Nat.gcd n.natAbs d.natAbs ≠ 0 → Ls_l2Make_7 n d x4 a b = some ((low n d, ()), ())
  | k, n, d, x4, a, b, hk, ha, hb, hn, hd, hg, h0 => by
    rw [Ls_l2Make_7_eq]
    by_cases hb0 : b = 0
    · subst hb0
      simp only [bne_self_eq_false, cond_false, abs124 ha, Option.bind_some]
      have hg' : a.natAbs = Nat.gcd n.natAbs d.natAbs := by simpa using hg
      have hne : ((a.natAbs : Int) != 0) = true := by simp; omega
      rw [hne, cond_true, cond_true, hg']
      have e1 := tdiv_le n ((Nat.gcd n.natAbs d.natAbs : Nat) : Int)
      have e2 := tdiv_le d ((Nat.gcd n.natAbs d.natAbs : Nat) : Int)
      rw [wrap_id (by omega) (by omega), wrap_id (by omega) (by omega), Ss_IsRatio_val]
      simp only [Option.bind_some]
      unfold low
      cases ratB (n.tdiv (Nat.gcd n.natAbs d.natAbs : Nat), d.tdiv (Nat.gcd n.natAbs d.natAbs : Nat)) <;> rfl
    · have : (b != 0) = true := by simpa using hb0
      rw [this, cond_true, cond_true]
      have hlt : a.natAbs % b.natAbs < b.natAbs := Nat.mod_lt _ (by omega)
      have hm := Int.natAbs_tmod a b
      cases k with
      | zero => omega
      | succ k =>
        refine L90_val k n d x4 b (Int.tmod a b) (by omega) hb (by omega) hn hd ?_ h0
        rw [hm, ← hg, Nat.gcd_comm a.natAbs, Nat.gcd_rec b.natAbs a.natAbs, Nat.gcd_comm]
  termination_by k => k

theorem Ss_l2Make_val {n d : Int} (hn : n.natAbs ≤ 4000000000000000000) (hd : d.natAbs ≤ 4000000000000000000) : Ss_l2Make n d = some ((redB n d, ()), ()) := by
  rw [Ss_l2Make_eq]
  unfold redB
  by_cases h0 : d = 0
  · subst h0
    rfl
  · have : (d == 0) = false := by simpa using h0
    rw [this, cond_false, cond_false]
    have hg : Nat.gcd n.natAbs d.natAbs ≠ 0 := fun h => by
      have := Nat.gcd_eq_zero_iff.1 h
      omega
    by_cases hs : d < 0
    · simp only [hs, decide_true, cond_true]
      rw [wrap_id (by omega) (by omega), wrap_id (by omega) (by omega), Int.zero_sub, Int.zero_sub]
      exact L90_val _ _ _ _ _ _ (Nat.le_refl _) (by omega) (by omega) (by omega) (by omega) rfl (by rwa [Int.natAbs_neg, Int.natAbs_neg])
    · simp only [hs, decide_false, cond_false]
      exact L90_val _ _ _ _ _ _ (Nat.le_refl _) (by omega) (by omega) (by omega) (by omega) rfl hg

theorem Si_commonDivisor_val {a b : Int} (ha : a.natAbs ≤ 4000000000000000000) (hb : b.natAbs ≤ 4000000000000000000) : Si_commonDivisor a b = some ((((Nat.gcd a.natAbs b.natAbs : Nat) : Int), ()), ()) := by
  rw [Si_commonDivisor_eq, abs71 ha, abs71 hb]
  simp only [Option.bind_some]
  rw [L114_val _ _ _ (Nat.le_refl _) (by omega) (by omega)]
  simp

theorem Si_reducedRatio_val {n d : Int} (hn : n.natAbs ≤ 4000000000000000000) (hd : d.natAbs ≤ 4000000000000000000) : Si_reducedRatio n d = some ((redB n d, ()), ()) := by
  rw [Si_reducedRatio_eq]
  unfold redB
  by_cases h0 : d = 0
  · subst h0
    rfl
  · have : (d == 0) = false := by simpa using h0
    rw [this, cond_false, cond_false]
    have hg : Nat.gcd n.natAbs d.natAbs ≠ 0 := fun h => by
      have := Nat.gcd_eq_zero_iff.1 h
      omega
    have hlow : ∀ n d : Int, n.natAbs ≤ 4000000000000000000 → d.natAbs ≤ 4000000000000000000 → Nat.gcd n.natAbs d.natAbs ≠ 0 →
        ((Si_commonDivisor n d).bind fun (y : (Int × PUnit) × PUnit) =>
      bif y.fst.fst != 0 then
        bif y.fst.fst != 0 then
          (Si_IsRatio (IntKind.i64.wrap (n.tdiv y.fst.fst), IntKind.i64.wrap (d.tdiv y.fst.fst))).bind
            fun (y_1 : (Bool × PUnit) × PUnit) =>
            bif !y_1.fst.fst then some (((ty3.zero, (Ty.int IntKind.i64).zero), ()), ())
            else some (((IntKind.i64.wrap (n.tdiv y.fst.fst), IntKind.i64.wrap (d.tdiv y.fst.fst)), ()), ())
        else none
      else none) = some ((low n d, ()), ()) := by
      intro n d hn hd hg
      rw [Si_commonDivisor_val hn hd]
      simp only [Option.bind_some]
      have hne : (((Nat.gcd n.natAbs d.natAbs : Nat) : Int) != 0) = true := by
        simp only [bne_iff_ne, ne_eq]
        omega
      have e1 := tdiv_le n ((Nat.gcd n.natAbs d.natAbs : Nat) : Int)
      have e2 := tdiv_le d ((Nat.gcd n.natAbs d.natAbs : Nat) : Int)
      rw [hne, cond_true, cond_true, wrap_id (by omega) (by omega), wrap_id (by omega) (by omega), Si_IsRatio_val]
      simp only [Option.bind_some]
      unfold low
      cases ratB (n.tdiv (Nat.gcd n.natAbs d.natAbs : Nat), d.tdiv (Nat.gcd n.natAbs d.natAbs : Nat)) <;> rfl
    by_cases hs : d < 0
    · simp only [hs, decide_true, cond_true]
      rw [wrap_id (x := 0 - n) (by omega) (by omega), wrap_id (x := 0 - d) (by omega) (by omega), Int.zero_sub, Int.zero_sub]
      exact hlow _ _ (by omega) (by omega) (by rwa [Int.natAbs_neg, Int.natAbs_neg])
    · simp only [hs, decide_false, cond_false]
      exact hlow _ _ hn hd hg

theorem rat_bd {r : Int × Int} (h : ratB r = true) : r.1.natAbs ≤ 400000000 ∧ r.2.natAbs ≤ 400000000 ∧ 1 ≤ r.2 := by
  simp only [ratB, numB, Bool.and_eq_true, decide_eq_true_eq] at h
  omega

theorem prod_bd {a b : Int} (ha : a.natAbs ≤ 400000000) (hb : b.natAbs ≤ 400000000) : (a * b).natAbs ≤ 160000000000000000 := by
  rw [Int.natAbs_mul]
  exact Nat.mul_le_mul ha hb

theorem wrap_prod {a b : Int} (ha : a.natAbs ≤ 400000000) (hb : b.natAbs ≤ 400000000) : IntKind.i64.wrap (a * b) = a * b := by
  have := prod_bd ha hb
  exact wrap_id (by omega) (by omega)

def addB (a b : Int × Int) : Int × Int := bif ratB a && ratB b then redB (a.1 * b.2 + b.1 * a.2) (a.2 * b.2) else (0, 0)
theorem Ss_AddRatios_val (a b : Int × Int) : Ss_AddRatios a b = some ((addB a b, ()), ()) := by
  rw [Ss_AddRatios_eq, Ss_IsRatio_val, Ss_IsRatio_val]
  unfold addB
  cases ha : ratB a <;> cases hb : ratB b <;> simp only [Option.bind_some, Bool.not_true, Bool.not_false, cond_true, cond_false, Bool.and_true, Bool.and_false, Bool.and_self]
  obtain ⟨a1, a2, _⟩ := rat_bd ha
  obtain ⟨b1, b2, _⟩ := rat_bd hb
  have e1 := prod_bd a1 b2
  have e2 := prod_bd b1 a2
  have e3 := prod_bd a2 b2
  rw [wrap_prod a1 b2, wrap_prod b1 a2, wrap_prod a2 b2, wrap_id (by omega) (by omega), Ss_l2Make_val (by omega) (by omega)]
  rfl
theorem Si_AddRatios_val (a b : Int × Int) : Si_AddRatios a b = some ((addB a b, ()), ()) := by
  rw [Si_AddRatios_eq, Si_IsRatio_val, Si_IsRatio_val]
  unfold addB
  cases ha : ratB a <;> cases hb : ratB b <;> simp only [Option.bind_some, Bool.not_true, Bool.not_false, cond_true, cond_false, Bool.and_true, Bool.and_false, Bool.and_self]
  obtain ⟨a1, a2, _⟩ := rat_bd ha
  obtain ⟨b1, b2, _⟩ := rat_bd hb
  have e1 := prod_bd a1 b2
  have e2 := prod_bd b1 a2
  have e3 := prod_bd a2 b2
  rw [wrap_prod a1 b2, wrap_prod b1 a2, wrap_prod a2 b2, wrap_id (by omega) (by omega), Si_reducedRatio_val (by omega) (by omega)]
  rfl

/-! ### tracks, again -/
def isTrk (x : List Stp) : Bool := trk x x.length 0 && (decide (1 ≤ (x.length : Int)) && decide ((x.length : Int) ≤ 6))
theorem Ss_IsTrack_val (x : List Stp) (hl : x.length ≤ 1048576) : Ss_IsTrack x = some ((isTrk x, ()), ()) := by
  rw [Ss_IsTrack_eq]
  exact L14_val x hl x.length 0 (by omega)
theorem Si_IsTrack_val (x : List Stp) (hl : x.length ≤ 1048576) : Si_IsTrack x = some ((isTrk x, ()), ()) := by
  obtain ⟨b, h1, h2⟩ := isTrack_same x hl
  rw [Ss_IsTrack_val x hl] at h1
  injection h1 with h1
  injection h1 with h1 _
  injection h1 with h1 _
  rw [h2, h1]
theorem isTrk_len {x : List Stp} (h : isTrk x = true) : 1 ≤ x.length ∧ x.length ≤ 6 := by
  simp only [isTrk, Bool.and_eq_true, decide_eq_true_eq] at h
  omega

/-! ### marks -/
/-! ### JoinTracks -/
/-! ### MoveTrack -/
def mvEnd (y : List Stp) : List Stp × Bool := bif !isTrk y then ([], false) else (y, true)

theorem mvEnd_len (y : List Stp) : (mvEnd y).1.length ≤ y.length := by
  unfold mvEnd
  cases isTrk y <;> simp

/-! ### more of ratios -/
def negB (a : Int × Int) : Int × Int := bif ratB a then (-a.1, a.2) else (0, 0)
theorem Ss_NegateRatio_val (a : Int × Int) : Ss_NegateRatio a = some ((negB a, ()), ()) := by
  rw [Ss_NegateRatio_eq, Ss_IsRatio_val]
  unfold negB
  cases ha : ratB a <;> simp only [Option.bind_some, Bool.not_true, Bool.not_false, cond_true, cond_false]
  obtain ⟨a1, a2, _⟩ := rat_bd ha
  rw [wrap_id (by omega) (by omega), Int.zero_sub]
theorem Si_NegateRatio_val (a : Int × Int) : Si_NegateRatio a = some ((negB a, ()), ()) := by
  rw [Si_NegateRatio_eq, Si_IsRatio_val]
  unfold negB
  cases ha : ratB a <;> simp only [Option.bind_some, Bool.not_true, Bool.not_false, cond_true, cond_false]
  obtain ⟨a1, a2, _⟩ := rat_bd ha
  rw [wrap_id (by omega) (by omega), Int.zero_sub]
theorem Si_subtractRatios_val (a b : Int × Int) : Si_subtractRatios a b = some ((addB a (negB b), ()), ()) := by
  rw [Si_subtractRatios_eq, Si_NegateRatio_val]
  simp only [Option.bind_some, Si_AddRatios_val]
def divB (a b : Int × Int) : Int × Int := bif ratB a && ratB b then (bif b.1 == 0 then (0, 0) else redB (a.1 * b.2) (a.2 * b.1)) else (0, 0)
theorem Ss_DivideRatios_val (a b : Int × Int) : Ss_DivideRatios a b = some ((divB a b, ()), ()) := by
  rw [Ss_DivideRatios_eq, Ss_IsRatio_val, Ss_IsRatio_val]
  unfold divB
  cases ha : ratB a <;> cases hb : ratB b <;> simp only [Option.bind_some, Bool.not_true, Bool.not_false, cond_true, cond_false, Bool.and_true, Bool.and_false, Bool.and_self]
  obtain ⟨a1, a2, _⟩ := rat_bd ha
  obtain ⟨b1, b2, _⟩ := rat_bd hb
  have e1 := prod_bd a1 b2
  have e3 := prod_bd a2 b1
  cases (b.1 == 0)
  · rw [cond_false, cond_false, wrap_prod a1 b2, wrap_prod a2 b1, Ss_l2Make_val (by omega) (by omega)]
    rfl
  · rfl
theorem Si_DivideRatios_val (a b : Int × Int) : Si_DivideRatios a b = some ((divB a b, ()), ()) := by
  rw [Si_DivideRatios_eq, Si_IsRatio_val, Si_IsRatio_val]
  unfold divB
  cases ha : ratB a <;> cases hb : ratB b <;> simp only [Option.bind_some, Bool.not_true, Bool.not_false, cond_true, cond_false, Bool.and_true, Bool.and_false, Bool.and_self]
  obtain ⟨a1, a2, _⟩ := rat_bd ha
  obtain ⟨b1, b2, _⟩ := rat_bd hb
  have e1 := prod_bd a1 b2
  have e3 := prod_bd a2 b1
  cases (b.1 == 0)
  · rw [cond_false, cond_false, wrap_prod a1 b2, wrap_prod a2 b1, Si_reducedRatio_val (by omega) (by omega)]
    rfl
  · rfl
def mulB (a b : Int × Int) : Int × Int := bif ratB a && ratB b then redB (a.1 * b.1) (a.2 * b.2) else (0, 0)
theorem Ss_MultiplyRatios_val (a b : Int × Int) : Ss_MultiplyRatios a b = some ((mulB a b, ()), ()) := by
  rw [Ss_MultiplyRatios_eq, Ss_IsRatio_val, Ss_IsRatio_val]
  unfold mulB
  cases ha : ratB a <;> cases hb : ratB b <;> simp only [Option.bind_some, Bool.not_true, Bool.not_false, cond_true, cond_false, Bool.and_true, Bool.and_false, Bool.and_self]
  obtain ⟨a1, a2, _⟩ := rat_bd ha
  obtain ⟨b1, b2, _⟩ := rat_bd hb
  have e1 := prod_bd a1 b1
  have e3 := prod_bd a2 b2
  rw [wrap_prod a1 b1, wrap_prod a2 b2, Ss_l2Make_val (by omega) (by omega)]
  rfl
theorem Si_MultiplyRatios_val (a b : Int × Int) : Si_MultiplyRatios a b = some ((mulB a b, ()), ()) := by
  rw [Si_MultiplyRatios_eq, Si_IsRatio_val, Si_IsRatio_val]
  unfold mulB
  cases ha : ratB a <;> cases hb : ratB b <;> simp only [Option.bind_some, Bool.not_true, Bool.not_false, cond_true, cond_false, Bool.and_true, Bool.and_false, Bool.and_self]
  obtain ⟨a1, a2, _⟩ := rat_bd ha
  obtain ⟨b1, b2, _⟩ := rat_bd hb
  have e1 := prod_bd a1 b1
  have e3 := prod_bd a2 b2
  rw [wrap_prod a1 b1, wrap_prod a2 b2, Si_reducedRatio_val (by omega) (by omega)]
  rfl

/-! ### legs -/
abbrev Lin := (Int × Int) × Int × Int
/-- The line from a at t to b at u. -/
def linB (t a u b : Int × Int) : Lin := (divB (addB b (negB a)) (addB u (negB t)), addB a (negB (mulB (divB (addB b (negB a)) (addB u (negB t))) t)))
theorem Ss_l8Through_val (t a u b : Int × Int) : Ss_l8Through t a u b = some ((linB t a u b, ()), ()) := by
  rw [Ss_l8Through_eq]
  simp only [Ss_NegateRatio_val, Ss_AddRatios_val, Ss_DivideRatios_val, Ss_MultiplyRatios_val, Option.bind_some]
  rfl
theorem Si_lineBetween_val (a t b u : Int × Int) : Si_lineBetween a t b u = some ((linB t a u b, ()), ()) := by
  rw [Si_lineBetween_eq]
  simp only [Si_subtractRatios_val, Si_DivideRatios_val, Si_MultiplyRatios_val, Option.bind_some]
  rfl
def linOk (l : Lin) : Bool := ratB l.1 && ratB l.2
theorem Si_line_valid_val (l : Lin) : Si_line_valid l = some ((linOk l, ()), ()) := by
  rw [Si_line_valid_eq, Si_IsRatio_val]
  simp only [Option.bind_some, Si_IsRatio_val]
  unfold linOk
  cases ratB l.1 <;> rfl
def xL (a b : Stp) : Lin := linB a.1 a.2.1 b.1 b.2.1
def yL (a b : Stp) : Lin := linB a.1 a.2.2 b.1 b.2.2
def legOk (a b : Stp) : Bool := linOk (xL a b) && linOk (yL a b)
theorem Ss_l8Leg_val (a b : Stp) : Ss_l8Leg a b = some ((xL a b, yL a b, legOk a b, ()), ()) := by
  rw [Ss_l8Leg_eq]
  simp only [Ss_l8Through_val, Ss_IsRatio_val, Option.bind_some]
  unfold legOk linOk
  show (bif ratB (xL a b).1 then _ else _) = _
  change (bif ratB (xL a b).1 then (bif ratB (xL a b).2 then (bif ratB (yL a b).1 then some ((xL a b, yL a b, ratB (yL a b).2, ()), ()) else some ((xL a b, yL a b, false, ()), ())) else some ((xL a b, yL a b, false, ()), ())) else some ((xL a b, yL a b, false, ()), ())) = _
  cases ratB (xL a b).1 <;> cases ratB (xL a b).2 <;> cases ratB (yL a b).1 <;> rfl
abbrev Leg := (Int × Int) × (Int × Int) × Lin × Lin
def legOf (a b : Stp) : Leg := (a.1, b.1, xL a b, yL a b)
theorem Si_legBetween_val (a b : Stp) : Si_legBetween a b = some ((legOf a b, legOk a b, ()), ()) := by
  rw [Si_legBetween_eq]
  simp only [Si_lineBetween_val, Si_line_valid_val, Option.bind_some]
  unfold legOk
  change (bif linOk (xL a b) then some ((legOf a b, linOk (yL a b), ()), ()) else some ((legOf a b, false, ()), ())) = _
  cases linOk (xL a b) <;> rfl

/-! ### SpeedOf -/
def absR (r : Int × Int) : Int × Int := ((r.1.natAbs : Int), r.2)
theorem ratB_abs {r : Int × Int} (h : ratB r = true) : ratB (absR r) = true := by
  have hb := rat_bd h
  have e1 : numB ((r.1.natAbs : Nat) : Int) = true := by
    simp only [numB, Bool.and_eq_true, decide_eq_true_eq]
    omega
  have e2 : numB r.1 = true := by
    simp only [numB, Bool.and_eq_true, decide_eq_true_eq]
    omega
  simp only [ratB, absR, gcdB, e1, e2, Int.natAbs_natCast] at h ⊢
  exact h
theorem ratB_zero : ratB (0, 1) = true := by decide
/-- The greater of two. -/
def gtB (v r : Int × Int) : Int × Int := bif lessB v (absR r) then absR r else v
theorem gtB_rat {v r : Int × Int} (hv : ratB v = true) (hr : ratB r = true) : ratB (gtB v r) = true := by
  unfold gtB
  cases lessB v (absR r)
  · exact hv
  · exact ratB_abs hr
theorem cmp_gt {a b : Int × Int} (ha : ratB a = true) (hb : ratB b = true) : ∃ c, Si_CompareRatios a b = some ((c, ()), ()) ∧ decide (c > 0) = lessB b a := by
  rw [Si_CompareRatios_eq, Si_IsRatio_val, Si_IsRatio_val]
  simp only [Option.bind_some, ha, hb, Bool.not_true, cond_false]
  unfold lessB
  by_cases h1 : IntKind.i64.wrap (a.1 * b.2) < IntKind.i64.wrap (b.1 * a.2)
  · refine ⟨-1, by simp [h1], ?_⟩
    have : ¬ IntKind.i64.wrap (b.1 * a.2) < IntKind.i64.wrap (a.1 * b.2) := by omega
    simp [this]
  · by_cases h2 : IntKind.i64.wrap (b.1 * a.2) < IntKind.i64.wrap (a.1 * b.2)
    · exact ⟨1, by simp [h1, h2], by simp [h2]⟩
    · exact ⟨0, by simp [h1, h2], by simp [h2]⟩
theorem impl_step {v r : Int × Int} (hv : ratB v = true) (hr : ratB r = true) {R : Type} (k : Int × Int → Option R) :
    ((Si_absolute r.1).bind fun (y_1 : (Int × PUnit) × PUnit) => (Si_CompareRatios (y_1.fst.fst, r.2) v).bind fun (y_2 : (Int × PUnit) × PUnit) => bif decide (y_2.fst.fst > 0) then k (y_1.fst.fst, r.2) else k v) = k (gtB v r) := by
  obtain ⟨a1, a2, _⟩ := rat_bd hr
  rw [abs71 (by omega)]
  simp only [Option.bind_some]
  obtain ⟨c, h1, h2⟩ := cmp_gt (ratB_abs hr) hv
  unfold absR at h1
  rw [h1]
  simp only [Option.bind_some, h2]
  unfold gtB absR
  cases lessB v ((r.1.natAbs : Int), r.2) <;> rfl

theorem Li_SpeedOf_9_val (z v p q : Int × Int) (l : List Leg) (m i : Int) (hv : ratB v = true) (hp : ratB p = true) (hq : ratB q = true) : Li_SpeedOf_9 z l v m i [p, q] 2 0 = Li_SpeedOf_6 z l (gtB (gtB v p) q) m (IntKind.i64.wrap (i + 1)) := by
  have g0 : getI [p, q] 0 = some p := rfl
  have g1 : getI [p, q] 1 = some q := rfl
  have w0 : IntKind.i64.wrap (0 + 1) = 1 := by decide
  have w1 : IntKind.i64.wrap (1 + 1) = 2 := by decide
  rw [Li_SpeedOf_9_eq]
  simp only [show decide ((0 : Int) < 2) = true from rfl, cond_true, g0, Option.bind_some, w0]
  rw [impl_step hv hp (fun u => Li_SpeedOf_9 z l u m i [p, q] 2 1), Li_SpeedOf_9_eq]
  simp only [show decide ((1 : Int) < 2) = true from rfl, cond_true, g1, Option.bind_some, w1]
  rw [impl_step (gtB_rat hv hp) hq (fun u => Li_SpeedOf_9 z l u m i [p, q] 2 2), Li_SpeedOf_9_eq]
  simp only [show decide ((2 : Int) < 2) = false from rfl, cond_false]

/-- The greatest speed of the legs from stop i on. -/
def spd (x : List Stp) : Nat → Nat → (Int × Int) → Option (Int × Int)
  | 0, _, v => some v
  | n + 1, i, v => match x[i - 1]?, x[i]? with
    | some a, some b => bif legOk a b then spd x n (i + 1) (gtB (gtB v (xL a b).1) (yL a b).1) else none
    | _, _ => none
/-- The legs, or none. -/
def legsB (x : List Stp) : Nat → Nat → List Leg → Option (List Leg)
  | 0, _, l => some l
  | n + 1, i, l => match x[i - 1]?, x[i]? with
    | some a, some b => bif legOk a b then legsB x n (i + 1) (l ++ [legOf a b]) else none
    | _, _ => none
def legsR : Option (List Leg) → Option ((List Leg × Bool × PUnit) × PUnit)
  | some v => some ((v, true, ()), ())
  | none => some (([], false, ()), ())
theorem L70_val (x : List Stp) (hl : x.length ≤ 6) : ∀ (n i : Nat) (l : List Leg), n + i = x.length → 1 ≤ i → l.length + 1 = i → Li_legsOf_8 x l (i : Int) = legsR (legsB x n i l)
  | 0, i, v, hn, h1, hv => by
    rw [Li_legsOf_8_eq]
    have : decide ((i : Int) < (x.length : Int)) = false := by simp; omega
    rw [this, cond_false]
    rfl
  | n + 1, i, v, hn, h1, hv => by
    rw [Li_legsOf_8_eq]
    have hi : i < x.length := by omega
    have : decide ((i : Int) < (x.length : Int)) = true := by simp; omega
    rw [this, cond_true, show IntKind.i64.wrap ((i : Int) - 1) = ((i - 1 : Nat) : Int) by rw [wrap_id] <;> omega, getI_ok (by omega), getI_ok hi]
    simp only [Option.bind_some, Si_legBetween_val, legsB, List.getElem?_eq_getElem hi, List.getElem?_eq_getElem (show i - 1 < x.length by omega)]
    cases hk : legOk x[i - 1] x[i] with
    | false => rfl
    | true =>
      simp only [Bool.not_true, cond_false, cond_true]
      have hd : decide ((v.length + 1) * 96 ≤ 140737488355328) = true := by simp; omega
      rw [hd, cond_true, show IntKind.i64.wrap ((i : Int) + 1) = ((i + 1 : Nat) : Int) by rw [wrap_id] <;> omega]
      exact L70_val x hl n (i + 1) _ (by omega) (by omega) (by simp; omega)

theorem legsB_len (x : List Stp) : ∀ (n i : Nat) (l r : List Leg), legsB x n i l = some r → r.length = l.length + n
  | 0, i, l, r, h => by
    simp only [legsB, Option.some.injEq] at h
    subst h; rfl
  | n + 1, i, l, r, h => by
    simp only [legsB] at h
    split at h
    · rename_i a b ha hb
      cases hk : legOk a b with
      | false => rw [hk] at h; cases h
      | true =>
        rw [hk] at h
        have := legsB_len x n (i + 1) _ r h
        simp at this
        omega
    · cases h

def spdL : List Leg → (Int × Int) → Int × Int
  | [], v => v
  | l :: ls, v => spdL ls (gtB (gtB v l.2.2.1.1) l.2.2.2.1)
def legsGood (l : List Leg) : Prop := ∀ g ∈ l, linOk g.2.2.1 = true ∧ linOk g.2.2.2 = true
theorem legsB_good (x : List Stp) : ∀ (n i : Nat) (l r : List Leg), legsGood l → legsB x n i l = some r → legsGood r
  | 0, i, l, r, hg, h => by
    simp only [legsB, Option.some.injEq] at h
    subst h; exact hg
  | n + 1, i, l, r, hg, h => by
    simp only [legsB] at h
    split at h
    · rename_i a b ha hb
      cases hk : legOk a b with
      | false => rw [hk] at h; cases h
      | true =>
        rw [hk] at h
        refine legsB_good x n (i + 1) _ r (fun g hg' => ?_) h
        rcases List.mem_append.1 hg' with hg' | hg'
        · exact hg g hg'
        · rw [List.mem_singleton.1 hg']
          simpa [legOk, legOf] using hk
    · cases h

theorem Li_SpeedOf_6_val (z : Int × Int) (l : List Leg) (hl : l.length ≤ 6) (hg : legsGood l) : ∀ (n i : Nat) (v : Int × Int), n + i = l.length → ratB v = true → Li_SpeedOf_6 z l v (l.length : Int) (i : Int) = some ((spdL (l.drop i) v, true, ()), ())
  | 0, i, v, hn, hv => by
    rw [Li_SpeedOf_6_eq]
    have : decide ((i : Int) < (l.length : Int)) = false := by simp; omega
    rw [this, cond_false, List.drop_eq_nil_of_le (by omega)]
    rfl
  | n + 1, i, v, hn, hv => by
    rw [Li_SpeedOf_6_eq]
    have hi : i < l.length := by omega
    have : decide ((i : Int) < (l.length : Int)) = true := by simp; omega
    have hgi := hg l[i] (List.getElem_mem hi)
    simp only [linOk, Bool.and_eq_true] at hgi
    rw [this, cond_true, getI_ok hi]
    simp only [Option.bind_some]
    rw [Li_SpeedOf_9_val _ _ _ _ _ _ _ hv hgi.1.1 hgi.2.1,
      show IntKind.i64.wrap ((i : Int) + 1) = ((i + 1 : Nat) : Int) by rw [wrap_id] <;> omega,
      Li_SpeedOf_6_val z l hl hg n (i + 1) _ (by omega) (gtB_rat (gtB_rat hv hgi.1.1) hgi.2.1), List.drop_eq_getElem_cons hi]
    rfl

/-! ### the order of ratios -/
theorem less_iff {a b : Int × Int} (ha : ratB a = true) (hb : ratB b = true) : lessB a b = decide (a.1 * b.2 < b.1 * a.2) := by
  obtain ⟨a1, a2, _⟩ := rat_bd ha
  obtain ⟨b1, b2, _⟩ := rat_bd hb
  unfold lessB
  rw [wrap_prod a1 b2, wrap_prod b1 a2]
theorem less_asym {a b : Int × Int} (ha : ratB a = true) (hb : ratB b = true) (h : lessB a b = true) : lessB b a = false := by
  rw [less_iff ha hb] at h
  rw [less_iff hb ha]
  simp only [decide_eq_true_eq, decide_eq_false_iff_not] at h ⊢
  omega
theorem less_irr (a : Int × Int) : lessB a a = false := by
  unfold lessB
  simp
theorem less_trans {a b c : Int × Int} (ha : ratB a = true) (hb : ratB b = true) (hc : ratB c = true) (h1 : lessB a b = true) (h2 : lessB b c = true) : lessB a c = true := by
  obtain ⟨_, _, pa⟩ := rat_bd ha
  obtain ⟨_, _, pb⟩ := rat_bd hb
  obtain ⟨_, _, pc⟩ := rat_bd hc
  rw [less_iff ha hb] at h1
  rw [less_iff hb hc] at h2
  rw [less_iff ha hc]
  simp only [decide_eq_true_eq] at h1 h2 ⊢
  have e1 : a.1 * b.2 * c.2 < b.1 * a.2 * c.2 := Int.mul_lt_mul_of_pos_right h1 (by omega)
  have e2 : b.1 * c.2 * a.2 < c.1 * b.2 * a.2 := Int.mul_lt_mul_of_pos_right h2 (by omega)
  have e3 : b.1 * a.2 * c.2 = b.1 * c.2 * a.2 := by rw [Int.mul_assoc, Int.mul_comm a.2, ← Int.mul_assoc]
  have e4 : a.1 * c.2 * b.2 < c.1 * a.2 * b.2 := by
    rw [Int.mul_assoc a.1, Int.mul_comm c.2, ← Int.mul_assoc, Int.mul_assoc c.1, Int.mul_comm a.2, ← Int.mul_assoc]
    omega
  exact Int.lt_of_mul_lt_mul_right e4 (by omega)
theorem rat_gcd {a : Int × Int} (ha : ratB a = true) : Nat.gcd a.1.natAbs a.2.natAbs = 1 := by
  have hb := rat_bd ha
  have e1 : numB a.1 = true := by simp only [numB, Bool.and_eq_true, decide_eq_true_eq]; omega
  have e2 : numB a.2 = true := by simp only [numB, Bool.and_eq_true, decide_eq_true_eq]; omega
  simp only [ratB, gcdB, e1, e2, Bool.and_eq_true, Bool.and_self, cond_true, beq_iff_eq] at ha
  omega
theorem less_tri {a b : Int × Int} (ha : ratB a = true) (hb : ratB b = true) (h1 : lessB a b = false) (h2 : lessB b a = false) : a = b := by
  obtain ⟨_, _, pa⟩ := rat_bd ha
  obtain ⟨_, _, pb⟩ := rat_bd hb
  rw [less_iff ha hb] at h1
  rw [less_iff hb ha] at h2
  simp only [decide_eq_false_iff_not] at h1 h2
  have he : a.1 * b.2 = b.1 * a.2 := by omega
  have hn : a.1.natAbs * b.2.natAbs = b.1.natAbs * a.2.natAbs := by rw [← Int.natAbs_mul, ← Int.natAbs_mul, he]
  have ca : Nat.Coprime a.2.natAbs a.1.natAbs := by rw [Nat.coprime_comm]; exact rat_gcd ha
  have cb : Nat.Coprime b.2.natAbs b.1.natAbs := by rw [Nat.coprime_comm]; exact rat_gcd hb
  have d1 : a.2.natAbs ∣ b.2.natAbs := ca.dvd_of_dvd_mul_left (by rw [hn]; exact Nat.dvd_mul_left _ _)
  have d2 : b.2.natAbs ∣ a.2.natAbs := cb.dvd_of_dvd_mul_left (by rw [← hn]; exact Nat.dvd_mul_left _ _)
  have e2 : a.2 = b.2 := by
    have := Nat.dvd_antisymm d1 d2
    omega
  have e1 : a.1 = b.1 := by
    rw [e2] at he
    exact Int.eq_of_mul_eq_mul_right (by omega) he
  exact Prod.ext e1 e2
theorem cmp_val {a b : Int × Int} (ha : ratB a = true) (hb : ratB b = true) : Si_CompareRatios a b = some (((bif lessB a b then -1 else bif lessB b a then 1 else 0 : Int), ()), ()) := by
  rw [Si_CompareRatios_eq, Si_IsRatio_val, Si_IsRatio_val]
  simp only [Option.bind_some, ha, hb, Bool.not_true, cond_false]
  unfold lessB
  by_cases h1 : IntKind.i64.wrap (a.1 * b.2) < IntKind.i64.wrap (b.1 * a.2)
  · simp [h1]
  · by_cases h2 : IntKind.i64.wrap (b.1 * a.2) < IntKind.i64.wrap (a.1 * b.2)
    · simp [h1, h2]
    · simp [h1, h2]

theorem trk_spec (x : List Stp) : ∀ (n i : Nat), trk x n i = true → ∀ j (hj : j < x.length), i ≤ j → j < i + n → ratB x[j].1 = true ∧ ratB x[j].2.1 = true ∧ ratB x[j].2.2 = true ∧ ∀ k (hk : k < x.length), j = k + 1 → lessB x[k].1 x[j].1 = true
  | 0, i, h, j, hj, h1, h2 => absurd h2 (by omega)
  | n + 1, i, h, j, hj, h1, h2 => by
    simp only [trk, Bool.and_eq_true] at h
    obtain ⟨h3, h4⟩ := h
    by_cases hij : j = i
    · subst hij
      rw [List.getElem?_eq_getElem hj] at h3
      simp only [Bool.and_eq_true] at h3
      obtain ⟨⟨⟨e1, e2⟩, e3⟩, e4⟩ := h3
      refine ⟨e1, e2, e3, fun k hk hjk => ?_⟩
      subst hjk
      simp only [List.getElem?_eq_getElem hk] at e4
      exact e4
    · exact trk_spec x n (i + 1) h4 j hj (by omega) (by omega)
theorem isTrk_spec {x : List Stp} (h : isTrk x = true) (j : Nat) (hj : j < x.length) : ratB x[j].1 = true ∧ ratB x[j].2.1 = true ∧ ratB x[j].2.2 = true ∧ ∀ k (hk : k < x.length), j = k + 1 → lessB x[k].1 x[j].1 = true := by
  simp only [isTrk, Bool.and_eq_true] at h
  exact trk_spec x x.length 0 h.1 j hj (by omega) (by omega)

/-! ### PositionAt -/
def valB (l : Lin) (t : Int × Int) : Int × Int := addB (mulB l.1 t) l.2
theorem Ss_l8Value_val (l : Lin) (t : Int × Int) : Ss_l8Value l t = some ((valB l t, ()), ()) := by
  rw [Ss_l8Value_eq]
  simp only [Ss_MultiplyRatios_val, Ss_AddRatios_val, Option.bind_some]
  rfl
theorem Ss_IsPoint_two (p q : Int × Int) : Ss_IsPoint [p, q] 2 = some ((ratB p && ratB q, ()), ()) := by
  have g0 : getI [p, q] 0 = some p := rfl
  have g1 : getI [p, q] 1 = some q := rfl
  have w0 : IntKind.i64.wrap (0 + 1) = 1 := by decide
  have w1 : IntKind.i64.wrap (1 + 1) = 2 := by decide
  rw [Ss_IsPoint_eq, Ls_IsPoint_2_eq]
  simp only [List.length_cons, List.length_nil, show decide ((0 : Int) < ((0 + 1 + 1 : Nat) : Int)) = true from rfl, cond_true, g0, Option.bind_some, Ss_IsRatio_val, w0]
  cases ratB p
  · rfl
  simp only [Bool.not_true, cond_false, Bool.true_and]
  rw [Ls_IsPoint_2_eq]
  simp only [List.length_cons, List.length_nil, show decide ((1 : Int) < ((0 + 1 + 1 : Nat) : Int)) = true from rfl, cond_true, g1, Option.bind_some, Ss_IsRatio_val, w1]
  cases ratB q
  · rfl
  simp only [Bool.not_true, cond_false]
  rw [Ls_IsPoint_2_eq]
  rfl
theorem Si_IsPoint_two (p q : Int × Int) : Si_IsPoint [p, q] 2 = some ((ratB p && ratB q, ()), ()) := by
  have g0 : getI [p, q] 0 = some p := rfl
  have g1 : getI [p, q] 1 = some q := rfl
  have w0 : IntKind.i64.wrap (0 + 1) = 1 := by decide
  have w1 : IntKind.i64.wrap (1 + 1) = 2 := by decide
  rw [Si_IsPoint_eq]
  simp only [List.length_cons, List.length_nil, show (((0 + 1 + 1 : Nat) : Int) != 2) = false from rfl, cond_false]
  rw [Li_IsPoint_4_eq]
  simp only [show decide ((0 : Int) < ((0 + 1 + 1 : Nat) : Int)) = true from rfl, cond_true, g0, Option.bind_some, Si_IsRatio_val, w0]
  cases ratB p
  · rfl
  simp only [Bool.not_true, cond_false, Bool.true_and]
  rw [Li_IsPoint_4_eq]
  simp only [show decide ((1 : Int) < ((0 + 1 + 1 : Nat) : Int)) = true from rfl, cond_true, g1, Option.bind_some, Si_IsRatio_val, w1]
  cases ratB q
  · rfl
  simp only [Bool.not_true, cond_false]
  rw [Li_IsPoint_4_eq]
  rfl

abbrev Pt := List (Int × Int)
def ptB (p s : Stp) (t : Int × Int) : Pt × Bool := bif legOk p s && (ratB (valB (xL p s) t) && ratB (valB (yL p s) t)) then ([valB (xL p s) t, valB (yL p s) t], true) else ([], false)
/-- The position at a time. -/
def posS (x : List Stp) (t : Int × Int) : Nat → Nat → Pt × Bool
  | 0, _ => ([], false)
  | n + 1, i => match x[i]? with
    | none => ([], false)
    | some s => bif s.1.1 == t.1 && s.1.2 == t.2 then ([s.2.1, s.2.2], true) else match i with
      | 0 => posS x t n 1
      | j + 1 => match x[j]? with
        | none => ([], false)
        | some p => bif lessB p.1 t && lessB t s.1 then ptB p s t else posS x t n (j + 2)
def ptR (r : Pt × Bool) : Option ((Pt × Bool × PUnit) × PUnit) := some ((r.1, r.2, ()), ())

theorem eqR {a b : Int × Int} : (a.1 == b.1 && a.2 == b.2) = decide (a = b) := by
  obtain ⟨a1, a2⟩ := a
  obtain ⟨b1, b2⟩ := b
  rw [Bool.eq_iff_iff]
  simp

theorem L43_val (x : List Stp) (t : Int × Int) (hl : x.length ≤ 6) : ∀ (n i : Nat), n + i = x.length → Ls_PositionAt_4 x t (i : Int) = ptR (posS x t n i)
  | 0, i, hn => by
    rw [Ls_PositionAt_4_eq]
    have : decide ((i : Int) < (x.length : Int)) = false := by simp; omega
    rw [this, cond_false]
    rfl
  | n + 1, i, hn => by
    rw [Ls_PositionAt_4_eq]
    have hi : i < x.length := by omega
    have : decide ((i : Int) < (x.length : Int)) = true := by simp; omega
    rw [this, cond_true, getI_ok hi]
    simp only [Option.bind_some, posS, List.getElem?_eq_getElem hi]
    rw [show IntKind.i64.wrap ((i : Int) + 1) = ((i + 1 : Nat) : Int) by rw [wrap_id] <;> omega, L43_val x t hl n (i + 1) (by omega)]
    cases (x[i].fst.fst == t.fst && x[i].fst.snd == t.snd) with
    | true => rfl
    | false =>
      simp only [cond_false]
      cases i with
      | zero => rfl
      | succ j =>
        have : decide (((j + 1 : Nat) : Int) > 0) = true := by simp
        rw [this, cond_true, show IntKind.i64.wrap (((j + 1 : Nat) : Int) - 1) = ((j : Nat) : Int) by rw [wrap_id] <;> omega, getI_ok (by omega)]
        simp only [Option.bind_some, Ss_l1Less_val, List.getElem?_eq_getElem (show j < x.length by omega)]
        cases lessB x[j].1 t with
        | false => rfl
        | true =>
          cases lessB t x[j + 1].1 with
          | false => rfl
          | true =>
            simp only [cond_true, Ss_l8Leg_val, Ss_l8Value_val, Option.bind_some, Ss_IsPoint_two, Bool.and_self]
            unfold ptB
            cases legOk x[j] x[j + 1] <;> cases (ratB (valB (xL x[j] x[j + 1]) t) && ratB (valB (yL x[j] x[j + 1]) t)) <;> rfl

theorem posS_none (x : List Stp) (t : Int × Int) (hx : isTrk x = true) (ht : ratB t = true) : ∀ (n j : Nat) (hj : j < x.length), n + (j + 1) = x.length → lessB t x[j].1 = true → posS x t n (j + 1) = ([], false)
  | 0, j, hj, hn, h => rfl
  | n + 1, j, hj, hn, h => by
    have hi : j + 1 < x.length := by omega
    have s1 := isTrk_spec hx (j + 1) hi
    have s0 := isTrk_spec hx j hj
    have hl := s1.2.2.2 j hj rfl
    have htn := less_trans ht s0.1 s1.1 h hl
    simp only [posS, List.getElem?_eq_getElem hi, List.getElem?_eq_getElem hj, eqR, less_asym ht s0.1 h, Bool.false_and, cond_false]
    have hne : decide (x[j + 1].1 = t) = false := by
      rw [decide_eq_false_iff_not]
      intro e
      rw [e, less_irr] at htn
      cases htn
    rw [hne, cond_false]
    exact posS_none x t hx ht n (j + 1) hi (by omega) htn

theorem L41_val (x : List Stp) (t : Int × Int) (hx : isTrk x = true) (ht : ratB t = true) : ∀ (n i : Nat), n + i = x.length → (∀ j (hj : j < x.length), i = j + 1 → lessB x[j].1 t = true) → Li_PositionAt_4 x t x (x.length : Int) (i : Int) = ptR (posS x t n i)
  | 0, i, hn, _ => by
    rw [Li_PositionAt_4_eq]
    have : decide ((i : Int) < (x.length : Int)) = false := by simp; omega
    rw [this, cond_false]
    rfl
  | n + 1, i, hn, hinv => by
    have hl := isTrk_len hx
    rw [Li_PositionAt_4_eq]
    have hi : i < x.length := by omega
    have : decide ((i : Int) < (x.length : Int)) = true := by simp; omega
    have s1 := isTrk_spec hx i hi
    rw [this, cond_true, getI_ok hi]
    simp only [Option.bind_some, cmp_val ht s1.1, posS, List.getElem?_eq_getElem hi, eqR]
    by_cases he : x[i].1 = t
    · simp only [he, less_irr, cond_false, decide_true, cond_true]
      rfl
    · simp only [he, decide_false, cond_false]
      cases h0 : lessB t x[i].1 with
      | true =>
        have c1 : ((-1 : Int) == 0) = false := rfl
        have c2 : decide ((-1 : Int) > 0) = false := rfl
        simp only [cond_true, c1, c2, cond_false]
        cases i with
        | zero =>
          simp only
          rw [posS_none x t hx ht n 0 hi (by omega) h0]
          rfl
        | succ j =>
          have c3 : (((j + 1 : Nat) : Int) == 0) = false := by
            rw [beq_eq_false_iff_ne]
            omega
          rw [c3, cond_false, show IntKind.i64.wrap (((j + 1 : Nat) : Int) - 1) = ((j : Nat) : Int) by rw [wrap_id] <;> omega, getI_ok (by omega)]
          simp only [Option.bind_some, Si_legBetween_val, List.getElem?_eq_getElem (show j < x.length by omega), hinv j (by omega) rfl, Bool.and_self, cond_true]
          unfold ptB
          cases hk : legOk x[j] x[j + 1] with
          | false => rfl
          | true =>
            simp only [Bool.not_true, cond_false, Si_MultiplyRatios_val, Si_AddRatios_val, Option.bind_some]
            change ((Si_IsPoint [valB (xL x[j] x[j + 1]) t, valB (yL x[j] x[j + 1]) t] 2).bind _) = _
            rw [Si_IsPoint_two]
            simp only [Option.bind_some]
            change (bif !(ratB (valB (xL x[j] x[j + 1]) t) && ratB (valB (yL x[j] x[j + 1]) t)) then _ else some (([valB (xL x[j] x[j + 1]) t, valB (yL x[j] x[j + 1]) t], true, ()), ())) = _
            cases (ratB (valB (xL x[j] x[j + 1]) t) && ratB (valB (yL x[j] x[j + 1]) t)) <;> rfl
      | false =>
        have h1 : lessB x[i].1 t = true := by
          cases h1 : lessB x[i].1 t with
          | true => rfl
          | false => exact absurd (less_tri s1.1 ht h1 h0) he
        have c1 : ((1 : Int) == 0) = false := rfl
        have c2 : decide ((1 : Int) > 0) = true := rfl
        simp only [h1, cond_true, cond_false, c1, c2]
        rw [show IntKind.i64.wrap ((i : Int) + 1) = ((i + 1 : Nat) : Int) by rw [wrap_id] <;> omega,
          L41_val x t hx ht n (i + 1) (by omega) (fun j hj e => by
            have : j = i := by omega
            subst this
            exact h1)]
        cases i with
        | zero => rfl
        | succ j =>
          simp only [List.getElem?_eq_getElem (show j < x.length by omega), Bool.and_false, cond_false]

def posB (x : List Stp) (t : Int × Int) : Pt × Bool := bif isTrk x && ratB t then posS x t x.length 0 else ([], false)
theorem Ss_PositionAt_val (x : List Stp) (t : Int × Int) (hl : x.length ≤ 1048576) : Ss_PositionAt x t = ptR (posB x t) := by
  rw [Ss_PositionAt_eq, Ss_IsTrack_val x hl, Ss_IsRatio_val]
  unfold posB
  simp only [Option.bind_some]
  cases hx : isTrk x with
  | false => rfl
  | true =>
    cases ht : ratB t with
    | false => rfl
    | true => exact L43_val x t (isTrk_len hx).2 x.length 0 (by omega)
theorem Si_PositionAt_val (x : List Stp) (t : Int × Int) (hl : x.length ≤ 1048576) : Si_PositionAt x t = ptR (posB x t) := by
  rw [Si_PositionAt_eq, Si_IsTrack_val x hl, Si_IsRatio_val]
  unfold posB
  simp only [Option.bind_some]
  cases hx : isTrk x with
  | false => rfl
  | true =>
    cases ht : ratB t with
    | false => rfl
    | true => exact L41_val x t hx ht x.length 0 (by omega) (fun j _ e => by omega)
theorem posS_len (x : List Stp) (t : Int × Int) : ∀ (n i : Nat), (posS x t n i).1.length ≤ 2 ∧ ((posS x t n i).2 = true → (posS x t n i).1.length = 2)
  | 0, i => by simp [posS]
  | n + 1, i => by
    simp only [posS]
    split
    · simp
    · rename_i s _
      cases (s.1.1 == t.1 && s.1.2 == t.2)
      · simp only [cond_false]
        split
        · exact posS_len x t n 1
        · split
          · simp
          · rename_i p _
            cases (lessB p.1 t && lessB t s.1)
            · exact posS_len x t n _
            · simp only [cond_true, ptB]
              cases (legOk p s && (ratB (valB (xL p s) t) && ratB (valB (yL p s) t))) <;> simp
      · simp
theorem posB_len (x : List Stp) (t : Int × Int) : (posB x t).1.length ≤ 2 ∧ ((posB x t).2 = true → (posB x t).1.length = 2 ∧ isTrk x = true ∧ ratB t = true) := by
  unfold posB
  cases hx : isTrk x <;> cases ht : ratB t <;> simp
  exact posS_len x t x.length 0

/-! ### rows of ratios: the same, marked, held -/
/-! ### CutTrack -/
def within (f t : Int × Int) (s : Stp) : Bool := lessB f s.1 && lessB s.1 t
def cutEnd (f t : Int × Int) (q : Int × Int) (q2 : Int × Int) (y : List Stp) : List Stp × Bool := mvEnd (bif !(f.1 == t.1 && f.2 == t.2) then y ++ [(t, q, q2)] else y)
def stR (r : List Stp × Bool) : Option ((List Stp × Bool × PUnit) × PUnit) := some ((r.1, r.2, ()), ())

theorem L47_val (x : List Stp) (f t q q2 : Int × Int) (hl : x.length ≤ 6) : ∀ (n i : Nat) (y : List Stp), n + i = x.length → y.length ≤ i + 1 → Ls_CutTrack_7 x f t [q, q2] y (i : Int) = stR (cutEnd f t q q2 (y ++ (x.drop i).filter (within f t)))
  | 0, i, y, hn, hy => by
    have g0 : getI [q, q2] 0 = some q := rfl
    have g1 : getI [q, q2] 1 = some q2 := rfl
    rw [Ls_CutTrack_7_eq]
    have : decide ((i : Int) < (x.length : Int)) = false := by simp; omega
    rw [this, cond_false, List.drop_eq_nil_of_le (by omega)]
    simp only [g0, g1, Option.bind_some, List.filter_nil, List.append_nil, cutEnd]
    cases (!(f.fst == t.fst && f.snd == t.snd)) with
    | true =>
      have hd : decide ((y.length + 1) * 48 ≤ 140737488355328) = true := by simp; omega
      simp only [cond_true, hd]
      rw [Ss_IsTrack_val _ (by simp; omega)]
      simp only [Option.bind_some, mvEnd]
      cases isTrk (y ++ [(t, q, q2)]) <;> rfl
    | false =>
      simp only [cond_false]
      rw [Ss_IsTrack_val _ (by omega)]
      simp only [Option.bind_some, mvEnd]
      cases isTrk y <;> rfl
  | n + 1, i, y, hn, hy => by
    rw [Ls_CutTrack_7_eq]
    have hi : i < x.length := by omega
    have : decide ((i : Int) < (x.length : Int)) = true := by simp; omega
    have hd : decide ((y.length + 1) * 48 ≤ 140737488355328) = true := by simp; omega
    rw [this, cond_true, getI_ok hi]
    simp only [Option.bind_some, Ss_l1Less_val, hd, cond_true]
    rw [show IntKind.i64.wrap ((i : Int) + 1) = ((i + 1 : Nat) : Int) by rw [wrap_id] <;> omega, L47_val x f t q q2 hl n (i + 1) _ (by omega) (by simp; omega), L47_val x f t q q2 hl n (i + 1) _ (by omega) (by omega),
      List.drop_eq_getElem_cons hi, List.filter_cons]
    unfold within
    cases lessB f x[i].1 <;> cases lessB x[i].1 t <;> simp [List.append_assoc]

theorem L48_val (x : List Stp) (f t q q2 : Int × Int) (hx : isTrk x = true) (hf : ratB f = true) (ht : ratB t = true) : ∀ (n i : Nat) (y : List Stp), n + i = x.length → y.length ≤ i + 1 → Li_CutTrack_7 x f t [q, q2] y x (x.length : Int) (i : Int) = stR (cutEnd f t q q2 (y ++ (x.drop i).filter (within f t)))
  | 0, i, y, hn, hy => by
    have hl := isTrk_len hx
    have g0 : getI [q, q2] 0 = some q := rfl
    have g1 : getI [q, q2] 1 = some q2 := rfl
    rw [Li_CutTrack_7_eq]
    have : decide ((i : Int) < (x.length : Int)) = false := by simp; omega
    rw [this, cond_false, List.drop_eq_nil_of_le (by omega)]
    have hsym : (t.fst == f.fst && t.snd == f.snd) = (f.fst == t.fst && f.snd == t.snd) := by rw [BEq.comm (a := t.fst), BEq.comm (a := t.snd)]
    simp only [g0, g1, Option.bind_some, List.filter_nil, List.append_nil, cutEnd, hsym]
    cases (!(f.fst == t.fst && f.snd == t.snd)) with
    | true =>
      have hd : decide ((y.length + 1) * 48 ≤ 140737488355328) = true := by simp; omega
      simp only [cond_true, hd]
      rw [Si_IsTrack_val _ (by simp; omega)]
      simp only [Option.bind_some, mvEnd]
      cases isTrk (y ++ [(t, q, q2)]) <;> rfl
    | false =>
      simp only [cond_false]
      rw [Si_IsTrack_val _ (by omega)]
      simp only [Option.bind_some, mvEnd]
      cases isTrk y <;> rfl
  | n + 1, i, y, hn, hy => by
    have hl := isTrk_len hx
    rw [Li_CutTrack_7_eq]
    have hi : i < x.length := by omega
    have s1 := isTrk_spec hx i hi
    have : decide ((i : Int) < (x.length : Int)) = true := by simp; omega
    have hd : decide ((y.length + 1) * 48 ≤ 140737488355328) = true := by simp; omega
    rw [this, cond_true, getI_ok hi]
    simp only [Option.bind_some, cmp_val s1.1 hf, cmp_val s1.1 ht, hd, cond_true]
    rw [show IntKind.i64.wrap ((i : Int) + 1) = ((i + 1 : Nat) : Int) by rw [wrap_id] <;> omega, L48_val x f t q q2 hx hf ht n (i + 1) _ (by omega) (by simp; omega), L48_val x f t q q2 hx hf ht n (i + 1) _ (by omega) (by omega),
      List.drop_eq_getElem_cons hi, List.filter_cons]
    have e1 : decide ((bif lessB x[i].1 f then -1 else bif lessB f x[i].1 then 1 else 0 : Int) > 0) = lessB f x[i].1 := by
      cases h : lessB x[i].1 f with
      | true => rw [less_asym s1.1 hf h]; rfl
      | false => cases lessB f x[i].1 <;> rfl
    have e2 : decide ((bif lessB x[i].1 t then -1 else bif lessB t x[i].1 then 1 else 0 : Int) < 0) = lessB x[i].1 t := by
      cases lessB x[i].1 t with
      | true => rfl
      | false => cases lessB t x[i].1 <;> rfl
    rw [e1, e2]
    unfold within
    cases lessB f x[i].1 <;> cases lessB x[i].1 t <;> simp [List.append_assoc]

theorem two_of {x : Pt} (h : x.length = 2) : ∃ p q, x = [p, q] := by
  match x, h with
  | [p, q], _ => exact ⟨p, q, rfl⟩

/-! ### what ratios are worth -/
abbrev Qt := _root_.Rat
def qv (r : Int × Int) : Qt := (r.1 : Qt) / (r.2 : Qt)
theorem qne {n : Int} (h : n ≠ 0) : (n : Qt) ≠ 0 := by simpa using h
theorem rat_pos {r : Int × Int} (h : ratB r = true) : (0 : Qt) < (r.2 : Qt) := by
  have := (rat_bd h).2.2
  have h2 : ((0 : Int) : Qt) < (r.2 : Qt) := Rat.intCast_lt_intCast.2 (by omega)
  simpa using h2
theorem rat_den {r : Int × Int} (h : ratB r = true) : (r.2 : Qt) ≠ 0 := qne (by have := (rat_bd h).2.2; omega)
theorem ratB_00 : ratB (0, 0) = false := by decide
theorem low_qv {n d : Int} (hd : d ≠ 0) (h : ratB (low n d) = true) : qv (low n d) = (n : Qt) / (d : Qt) := by
  unfold low at h ⊢
  cases hc : ratB (n.tdiv (Nat.gcd n.natAbs d.natAbs : Nat), d.tdiv (Nat.gcd n.natAbs d.natAbs : Nat)) with
  | false => rw [hc, cond_false, ratB_00] at h; cases h
  | true =>
    rw [cond_true]
    generalize hg : Nat.gcd n.natAbs d.natAbs = g at hc ⊢
    have hgp : 0 < g := by rw [← hg]; exact Nat.gcd_pos_of_pos_right _ (by omega)
    have h1 : ((g : Nat) : Int) ∣ n := by rw [← hg]; exact Int.ofNat_dvd_left.2 (Nat.gcd_dvd_left _ _)
    have h2 : ((g : Nat) : Int) ∣ d := by rw [← hg]; exact Int.ofNat_dvd_left.2 (Nat.gcd_dvd_right _ _)
    have e1 : n.tdiv g * g = n := Int.tdiv_mul_cancel h1
    have e2 : d.tdiv g * g = d := Int.tdiv_mul_cancel h2
    unfold qv
    dsimp only
    have c1 : (n : Qt) = ((n.tdiv g : Int) : Qt) * ((g : Int) : Qt) := by rw [← Rat.intCast_mul, e1]
    have c2 : (d : Qt) = ((d.tdiv g : Int) : Qt) * ((g : Int) : Qt) := by rw [← Rat.intCast_mul, e2]
    have c3 : ((g : Int) : Qt) ≠ 0 := qne (by omega)
    have c4 : ((d.tdiv g : Int) : Qt) ≠ 0 := qne (fun e => by rw [e] at e2; omega)
    rw [c1, c2]
    grind
theorem red_qv {n d : Int} (hd : d ≠ 0) (h : ratB (redB n d) = true) : qv (redB n d) = (n : Qt) / (d : Qt) := by
  have h0 : (d == 0) = false := by simpa using hd
  unfold redB at h ⊢
  rw [h0, cond_false] at h ⊢
  cases hc : decide (d < 0) with
  | true =>
    rw [hc, cond_true] at h
    rw [cond_true, low_qv (by omega) h]
    have := qne hd
    rw [Rat.intCast_neg, Rat.intCast_neg]
    grind
  | false =>
    rw [hc, cond_false] at h
    rw [cond_false, low_qv hd h]
theorem qv_inj {a b : Int × Int} (ha : ratB a = true) (hb : ratB b = true) (h : qv a = qv b) : a = b := by
  have pa := (rat_bd ha).2.2
  have pb := (rat_bd hb).2.2
  have da := rat_den ha
  have db := rat_den hb
  unfold qv at h
  have hq : (a.1 : Qt) * (b.2 : Qt) = (b.1 : Qt) * (a.2 : Qt) := by grind
  rw [← Rat.intCast_mul, ← Rat.intCast_mul, Rat.intCast_inj] at hq
  have hn : a.1.natAbs * b.2.natAbs = b.1.natAbs * a.2.natAbs := by rw [← Int.natAbs_mul, ← Int.natAbs_mul, hq]
  have ca : Nat.Coprime a.2.natAbs a.1.natAbs := by rw [Nat.coprime_comm]; exact rat_gcd ha
  have cb : Nat.Coprime b.2.natAbs b.1.natAbs := by rw [Nat.coprime_comm]; exact rat_gcd hb
  have d1 : a.2.natAbs ∣ b.2.natAbs := ca.dvd_of_dvd_mul_left (by rw [hn]; exact Nat.dvd_mul_left _ _)
  have d2 : b.2.natAbs ∣ a.2.natAbs := cb.dvd_of_dvd_mul_left (by rw [← hn]; exact Nat.dvd_mul_left _ _)
  have e2 : a.2 = b.2 := by
    have := Nat.dvd_antisymm d1 d2
    omega
  have e1 : a.1 = b.1 := by
    rw [e2] at hq
    exact Int.eq_of_mul_eq_mul_right (by omega) hq
  exact Prod.ext e1 e2
theorem den_mul {a b : Int × Int} (ha : ratB a = true) (hb : ratB b = true) : a.2 * b.2 ≠ 0 := by
  have h1 := (rat_bd ha).2.2
  have h2 := (rat_bd hb).2.2
  exact Int.mul_ne_zero (by omega) (by omega)
theorem both {a b : Int × Int} {c : Int × Int} (h : ratB (bif ratB a && ratB b then c else (0, 0)) = true) : ratB a = true ∧ ratB b = true ∧ ratB c = true := by
  cases ha : ratB a
  · rw [ha, Bool.false_and, cond_false, ratB_00] at h; cases h
  cases hb : ratB b
  · rw [ha, hb, Bool.and_false, cond_false, ratB_00] at h; cases h
  rw [ha, hb] at h
  exact ⟨rfl, rfl, h⟩
theorem add_ok {a b : Int × Int} (h : ratB (addB a b) = true) : ratB a = true ∧ ratB b = true ∧ qv (addB a b) = qv a + qv b := by
  obtain ⟨ha, hb, h2⟩ := both h
  have da := rat_den ha
  have db := rat_den hb
  refine ⟨ha, hb, ?_⟩
  unfold addB
  rw [ha, hb, Bool.and_self, cond_true, red_qv (den_mul ha hb) h2]
  unfold qv
  rw [Rat.intCast_add, Rat.intCast_mul, Rat.intCast_mul, Rat.intCast_mul]
  grind
theorem mul_ok {a b : Int × Int} (h : ratB (mulB a b) = true) : ratB a = true ∧ ratB b = true ∧ qv (mulB a b) = qv a * qv b := by
  obtain ⟨ha, hb, h2⟩ := both h
  have da := rat_den ha
  have db := rat_den hb
  refine ⟨ha, hb, ?_⟩
  unfold mulB
  rw [ha, hb, Bool.and_self, cond_true, red_qv (den_mul ha hb) h2]
  unfold qv
  rw [Rat.intCast_mul, Rat.intCast_mul]
  grind
theorem neg_ok {a : Int × Int} (h : ratB (negB a) = true) : ratB a = true ∧ qv (negB a) = - qv a := by
  unfold negB at h ⊢
  cases ha : ratB a
  · rw [ha, cond_false, ratB_00] at h; cases h
  refine ⟨rfl, ?_⟩
  rw [cond_true]
  have da := rat_den ha
  unfold qv
  dsimp only
  rw [Rat.intCast_neg]
  grind
theorem div_ok {a b : Int × Int} (h : ratB (divB a b) = true) : ratB a = true ∧ ratB b = true ∧ qv b ≠ 0 ∧ qv (divB a b) = qv a / qv b := by
  obtain ⟨ha, hb, h2⟩ := both h
  have da := rat_den ha
  have db := rat_den hb
  cases h0 : (b.1 == 0)
  · rw [h0, cond_false] at h2
    have hb1 : b.1 ≠ 0 := by simpa using h0
    have nb := qne hb1
    have hd : a.2 * b.1 ≠ 0 := Int.mul_ne_zero (by have := (rat_bd ha).2.2; omega) hb1
    refine ⟨ha, hb, ?_, ?_⟩
    · unfold qv; grind
    · unfold divB
      rw [ha, hb, Bool.and_self, cond_true, h0, cond_false, red_qv hd h2]
      unfold qv
      rw [Rat.intCast_mul, Rat.intCast_mul]
      grind
  · rw [h0, cond_true, ratB_00] at h2; cases h2
theorem less_qv {a b : Int × Int} (ha : ratB a = true) (hb : ratB b = true) : lessB a b = decide (qv a < qv b) := by
  rw [less_iff ha hb, decide_eq_decide]
  have pa := rat_pos ha
  have pb := rat_pos hb
  have da := rat_den ha
  have db := rat_den hb
  unfold qv
  rw [Rat.div_lt_iff pa, show (b.1 : Qt) / (b.2 : Qt) * (a.2 : Qt) = ((b.1 : Qt) * (a.2 : Qt)) / (b.2 : Qt) by grind, Rat.lt_div_iff pb, ← Rat.intCast_mul, ← Rat.intCast_mul, Rat.intCast_lt_intCast]

/-! ### lines, by what they are worth -/
structure LinV (t a u b : Int × Int) : Prop where
  rt : ratB t = true
  ra : ratB a = true
  ru : ratB u = true
  rb : ratB b = true
  ne : qv u - qv t ≠ 0
  r1 : ratB (linB t a u b).1 = true
  r2 : ratB (linB t a u b).2 = true
  v1 : qv (linB t a u b).1 = (qv b - qv a) / (qv u - qv t)
  v2 : qv (linB t a u b).2 = qv a - (qv b - qv a) / (qv u - qv t) * qv t
theorem lin_ok {t a u b : Int × Int} (h : linOk (linB t a u b) = true) : LinV t a u b := by
  unfold linOk at h
  rw [Bool.and_eq_true] at h
  obtain ⟨h1, h2⟩ := h
  have e1 := div_ok h1
  obtain ⟨e2, e3, e4, e5⟩ := e1
  obtain ⟨rb, hna, e6⟩ := add_ok e2
  obtain ⟨ra, e7⟩ := neg_ok hna
  obtain ⟨ru, hnt, e8⟩ := add_ok e3
  obtain ⟨rt, e9⟩ := neg_ok hnt
  have e10 := add_ok h2
  obtain ⟨_, hn2, e11⟩ := e10
  obtain ⟨hm, e12⟩ := neg_ok hn2
  obtain ⟨_, _, e13⟩ := mul_ok hm
  have ed : qv (addB u (negB t)) = qv u - qv t := by rw [e8, e9]; grind
  have en : qv (addB b (negB a)) = qv b - qv a := by rw [e6, e7]; grind
  have v1 : qv (linB t a u b).1 = (qv b - qv a) / (qv u - qv t) := by
    show qv (divB _ _) = _
    rw [e5, ed, en]
  refine ⟨rt, ra, ru, rb, by rw [← ed]; exact e4, h1, h2, v1, ?_⟩
  show qv (addB a _) = _
  rw [e11, e12, e13]
  have : qv (divB (addB b (negB a)) (addB u (negB t))) = (qv b - qv a) / (qv u - qv t) := v1
  rw [this]
  grind
theorem val_ok {l : Lin} {t : Int × Int} (h : ratB (valB l t) = true) : ratB t = true ∧ qv (valB l t) = qv l.1 * qv t + qv l.2 := by
  obtain ⟨h1, _, h2⟩ := add_ok h
  obtain ⟨_, h3, h4⟩ := mul_ok h1
  refine ⟨h3, ?_⟩
  show qv (addB _ _) = _
  rw [h2, h4]
/-! ### MoveTrack, in values -/
/-! ### SpeedOf, in values -/
def speedB (x : List Stp) : (Int × Int) × Bool := bif isTrk x then (bif (x.length : Int) == 1 then ((0, 1), true) else match legsB x (x.length - 1) 1 [] with
  | none => ((0, 0), false)
  | some r => (spdL r (0, 1), true)) else ((0, 0), false)
theorem Si_SpeedOf_val (x : List Stp) (hl : x.length ≤ 1048576) : Si_SpeedOf x = some (((speedB x).1, (speedB x).2, ()), ()) := by
  rw [Si_SpeedOf_eq, Si_legsOf_eq, Si_IsTrack_val x hl]
  unfold speedB
  simp only [Option.bind_some]
  cases hx : isTrk x with
  | false => rfl
  | true =>
    have hn := isTrk_len hx
    simp only [Bool.not_true, cond_false, cond_true]
    have k2 : Li_legsOf_8 x [] 1 = legsR (legsB x (x.length - 1) 1 []) := L70_val x hn.2 (x.length - 1) 1 [] (by omega) (by omega) rfl
    by_cases h1 : x.length = 1
    · have e1 : (((x.length : Nat) : Int) == 1) = true := by rw [h1]; rfl
      have g : getI x 0 = some (x[0]'(by omega)) := getI_ok (i := 0) (by omega)
      rw [e1, cond_true, g]
      simp only [Option.bind_some, Bool.not_true, cond_false]
      have hz : ratB ((0 : Int), (1 : Int)) = true := ratB_zero
      have hgt : gtB (0, 1) (0, 1) = (0, 1) := by decide
      have g0 : ∀ g : Leg, getI [g] 0 = some g := fun _ => rfl
      have hw : IntKind.i64.wrap ((0 : Int) + 1) = 1 := by decide
      rw [Li_SpeedOf_6_eq]
      simp only [List.length_singleton, show decide ((0 : Int) < ((1 : Nat) : Int)) = true from rfl, cond_true, g0, Option.bind_some]
      refine Eq.trans (Li_SpeedOf_9_val (0, 0) (0, 1) (0, 1) (0, 1) _ _ _ hz hz hz) ?_
      rw [hgt, hgt, hw, Li_SpeedOf_6_eq]
      rfl
    · have e1 : (((x.length : Nat) : Int) == 1) = false := by
        rw [beq_eq_false_iff_ne]
        omega
      rw [e1, cond_false, k2]
      cases hL : legsB x (x.length - 1) 1 [] with
      | none => rfl
      | some r =>
        have hlen := legsB_len x _ _ _ _ hL
        have hgood := legsB_good x _ _ _ _ (fun g hg => by cases hg) hL
        simp only [legsR, Option.bind_some, Bool.not_true, cond_false]
        exact Li_SpeedOf_6_val (0, 0) r (by simp at hlen; omega) hgood r.length 0 (0, 1) (by omega) ratB_zero

/-! ### what is moved -/
/-! ### draws -/
abbrev Crs := List Int × Int × Int
def CurK (c : Crs) : Prop := c.1.length ≤ 1048576 ∧ 0 ≤ c.2.1 ∧ c.2.1 ≤ (c.1.length : Int)
theorem and255 (X : BitVec IntKind.i64.bits) : 0 ≤ IntKind.i64.wrap (((X &&& BitVec.ofInt IntKind.i64.bits 255).toNat : Nat) : Int) ∧ IntKind.i64.wrap (((X &&& BitVec.ofInt IntKind.i64.bits 255).toNat : Nat) : Int) ≤ 255 := by
  have h : (X &&& BitVec.ofInt IntKind.i64.bits 255).toNat ≤ 255 := by
    rw [BitVec.toNat_and]
    exact Nat.le_trans Nat.and_le_right (by decide)
  rw [wrap_id (by omega) (by omega)]
  omega
theorem byte_ok {c : Crs} (hc : CurK c) : ∃ b c', Ss_l1Byte c = some ((b, ()), c', ()) ∧ 0 ≤ b ∧ b ≤ 255 ∧ CurK c' := by
  obtain ⟨h1, h2, h3⟩ := hc
  rw [Ss_l1Byte_eq]
  by_cases hlt : c.2.1 < (c.1.length : Int)
  · have g : getI c.1 c.2.1 = some (c.1[c.2.1.toNat]'(by omega)) := by
      have := getI_ok (xs := c.1) (i := c.2.1.toNat) (by omega)
      rwa [show ((c.2.1.toNat : Nat) : Int) = c.2.1 by omega] at this
    rw [decide_eq_true hlt, cond_true, g, wrap_id (x := c.2.1 + 1) (by omega) (by omega)]
    exact ⟨_, _, rfl, (and255 _).1, (and255 _).2, h1, by show 0 ≤ c.2.1 + 1; omega, by show c.2.1 + 1 ≤ (c.1.length : Int); omega⟩
  · rw [decide_eq_false hlt, cond_false]
    exact ⟨_, _, rfl, (and255 _).1, (and255 _).2, h1, h2, h3⟩
theorem below_ok {c : Crs} (hc : CurK c) (n : Int) : ∃ r c', Ss_l1Below c n = some ((r, ()), c', ()) ∧ 0 ≤ r ∧ (0 < n → r < n) ∧ CurK c' := by
  rw [Ss_l1Below_eq]
  by_cases h0 : n ≤ 0
  · rw [decide_eq_true h0, cond_true]
    exact ⟨0, c, rfl, Int.le_refl _, fun h => by omega, hc⟩
  · have hn : (n != 0) = true := by rw [bne_iff_ne]; omega
    rw [decide_eq_false h0, cond_false, hn]
    obtain ⟨b1, c1, e1, l1, u1, k1⟩ := byte_ok hc
    by_cases h1 : n ≤ 256
    · rw [decide_eq_true h1, cond_true, e1]
      exact ⟨_, _, rfl, Int.tmod_nonneg _ l1, fun h => Int.tmod_lt_of_pos _ h, k1⟩
    · obtain ⟨b2, c2, e2, l2, u2, k2⟩ := byte_ok k1
      obtain ⟨b3, c3, e3, l3, u3, k3⟩ := byte_ok k2
      obtain ⟨b4, c4, e4, l4, u4, k4⟩ := byte_ok k3
      rw [decide_eq_false h1, cond_false]
      simp only [e1, e2, e3, e4, Option.bind_some, cond_true]
      rw [wrap_id (x := b1 * 16777216) (by omega) (by omega), wrap_id (x := b2 * 65536) (by omega) (by omega), wrap_id (x := b1 * 16777216 + b2 * 65536) (by omega) (by omega), wrap_id (x := b3 * 256) (by omega) (by omega),
        wrap_id (x := b1 * 16777216 + b2 * 65536 + b3 * 256) (by omega) (by omega), wrap_id (x := b1 * 16777216 + b2 * 65536 + b3 * 256 + b4) (by omega) (by omega)]
      exact ⟨_, _, rfl, Int.tmod_nonneg _ (by omega), fun h => Int.tmod_lt_of_pos _ h, k4⟩
theorem once_ok {c : Crs} (hc : CurK c) (n : Int) : ∃ r c', Ss_l1Once c n = some ((r, ()), c', ()) ∧ CurK c' := by
  obtain ⟨r, c', e, _, _, k⟩ := below_ok hc n
  rw [Ss_l1Once_eq, e]
  exact ⟨_, _, rfl, k⟩
theorem pick_ok {c : Crs} (hc : CurK c) (l : List Int) (hl : 0 < l.length) : ∃ r c', Ss_l1PickInt c l = some ((r, ()), c', ()) ∧ CurK c' := by
  obtain ⟨r, c', e, h0, h1, k⟩ := below_ok hc (l.length : Int)
  have h1 := h1 (by omega)
  have g : getI l r = some (l[r.toNat]'(by omega)) := by
    have := getI_ok (xs := l) (i := r.toNat) (by omega)
    rwa [show ((r.toNat : Nat) : Int) = r by omega] at this
  rw [Ss_l1PickInt_eq, e]
  simp only [Option.bind_some, g]
  exact ⟨_, _, rfl, k⟩
theorem odd_ok {c : Crs} (hc : CurK c) : ∃ r c', Ss_l1Odd c = some ((r, ()), c', ()) ∧ CurK c' := by
  rw [Ss_l1Odd_eq]
  obtain ⟨r, c', e, k⟩ := pick_ok hc [0, 1, -1, 2, 400000000, -400000000, 400000001, -400000001, 399999999, 9223372036854775807, -9223372036854775808] (by decide)
  rw [e]
  exact ⟨_, _, rfl, k⟩
def mkB (a b : Int) : Int × Int := bif numB a && numB b then redB a b else (0, 0)
theorem Ss_MakeRatio_val (a b : Int) : Ss_MakeRatio a b = some ((mkB a b, ()), ()) := by
  rw [Ss_MakeRatio_eq, Ss_IsNumber_val, Ss_IsNumber_val]
  unfold mkB
  cases ha : numB a
  · rfl
  cases hb : numB b
  · rfl
  simp only [numB, Bool.and_eq_true, decide_eq_true_eq] at ha hb
  simp only [Option.bind_some, Bool.not_true, cond_false, Bool.and_self, cond_true, Ss_l2Make_val (n := a) (d := b) (by omega) (by omega)]
theorem any_ok {c : Crs} (hc : CurK c) : ∃ r c', Ss_l2Any c = some ((r, ()), c', ()) ∧ CurK c' := by
  rw [Ss_l2Any_eq]
  obtain ⟨r, c1, e, _, _, k⟩ := below_ok hc 12
  simp only [e, Option.bind_some]
  cases r == 0
  · cases r == 1
    · cases r == 2
      · obtain ⟨r2, c2, e2, _, _, k2⟩ := below_ok k 41
        obtain ⟨r3, c3, e3, _, _, k3⟩ := below_ok k2 12
        simp only [cond_false, e2, e3, Option.bind_some, Ss_MakeRatio_val]
        exact ⟨_, _, rfl, k3⟩
      · obtain ⟨r2, c2, e2, _, _, k2⟩ := below_ok k 400000000
        obtain ⟨r3, c3, e3, _, _, k3⟩ := below_ok k2 400000000
        simp only [cond_false, cond_true, e2, e3, Option.bind_some, Ss_MakeRatio_val]
        exact ⟨_, _, rfl, k3⟩
    · obtain ⟨r2, c2, e2, k2⟩ := odd_ok k
      obtain ⟨r3, c3, e3, k3⟩ := pick_ok k2 [1, 2, 400000000, -1, 4] (by decide)
      simp only [cond_false, cond_true, e2, e3, Option.bind_some]
      exact ⟨_, _, rfl, k3⟩
  · exact ⟨_, _, rfl, k⟩
theorem track_loop : ∀ (n : Nat) (c : Crs) (l : List Stp) (t : Int), CurK c → n ≤ 3 → l.length + n ≤ 3 → 0 < l.length + n → ∃ r c', Ls_l8Track_4 c l t (n : Int) = some ((r, ()), c', ()) ∧ CurK c' ∧ r.length ≤ 3 ∧ 0 < r.length
  | 0, c, l, t, hc, h3, hl, hp => by
    rw [Ls_l8Track_4_eq]
    obtain ⟨o, c1, e1, k1⟩ := once_ok hc 24
    simp only [show decide (((0 : Nat) : Int) > 0) = false from rfl, cond_false, e1, Option.bind_some]
    cases o
    · exact ⟨l, c1, rfl, k1, by omega, by omega⟩
    · obtain ⟨r2, c2, e2, k2⟩ := any_ok k1
      have g : getI l 0 = some (l[0]'(by omega)) := getI_ok (i := 0) (by omega)
      simp only [cond_true, e2, g, Option.bind_some]
      exact ⟨_, _, rfl, k2, by simp; omega, by simp; omega⟩
  | n + 1, c, l, t, hc, h3, hl, hp => by
    rw [Ls_l8Track_4_eq]
    obtain ⟨r1, c1, e1, _, _, k1⟩ := below_ok hc 9
    obtain ⟨r2, c2, e2, _, _, k2⟩ := below_ok k1 9
    obtain ⟨r3, c3, e3, _, _, k3⟩ := below_ok k2 4
    have hd : decide ((l.length + 1) * 48 ≤ 140737488355328) = true := by simp; omega
    have hg : decide (((n + 1 : Nat) : Int) > 0) = true := by simp
    simp only [hg, cond_true, Ss_MakeRatio_val, e1, e2, e3, Option.bind_some, Ss_l1Whole_eq, hd]
    rw [show IntKind.i64.wrap (((n + 1 : Nat) : Int) - 1) = ((n : Nat) : Int) by rw [wrap_id] <;> omega]
    exact track_loop n c3 _ _ k3 (by omega) (by simp; omega) (by simp; omega)
theorem draw_track {c : Crs} (hc : CurK c) : ∃ r c', Ss_l8Track c = some ((r, ()), c', ()) ∧ CurK c' ∧ r.length ≤ 3 ∧ 0 < r.length := by
  rw [Ss_l8Track_eq]
  obtain ⟨t, c1, e1, _, _, k1⟩ := below_ok hc 4
  obtain ⟨n, c2, e2, n0, n1, k2⟩ := below_ok k1 3
  have n1 := n1 (by omega)
  simp only [e1, e2, Option.bind_some]
  rw [show IntKind.i64.wrap (1 + n) = ((n.toNat + 1 : Nat) : Int) by rw [wrap_id] <;> omega]
  exact track_loop (n.toNat + 1) c2 [] t k2 (by omega) (by simp; omega) (by simp)
theorem new_loop (x : List Int) (hl : x.length ≤ 1048576) : ∀ (n i : Nat) (h : Int), n + i = x.length → ∃ h', Ls_l1New_3 x h (i : Int) = some (((x, 0, h'), ()), ())
  | 0, i, h, hn => by
    rw [Ls_l1New_3_eq]
    have : decide ((i : Int) < (x.length : Int)) = false := by simp; omega
    rw [this, cond_false]
    exact ⟨_, rfl⟩
  | n + 1, i, h, hn => by
    rw [Ls_l1New_3_eq]
    have hi : i < x.length := by omega
    have : decide ((i : Int) < (x.length : Int)) = true := by simp; omega
    rw [this, cond_true]
    cases decide ((i : Int) < 4000)
    · exact ⟨_, rfl⟩
    · rw [cond_true, getI_ok hi]
      simp only [Option.bind_some]
      rw [show IntKind.i64.wrap ((i : Int) + 1) = ((i + 1 : Nat) : Int) by rw [wrap_id] <;> omega]
      exact new_loop x hl n (i + 1) _ (by omega)
theorem draw_new (x : List Int) (hl : x.length ≤ 1048576) : ∃ c, Ss_l1New x = some ((c, ()), ()) ∧ CurK c := by
  rw [Ss_l1New_eq]
  obtain ⟨h', e⟩ := new_loop x hl x.length 0 (IntKind.i64.wrap (10101 + (x.length : Int))) (by omega)
  exact ⟨_, e, hl, Int.le_refl _, by show (0 : Int) ≤ _; omega⟩
theorem draw_cut (x : List Int) (hl : x.length ≤ 1048576) : ∃ l f t, Ss_DrawCutTrack x = some ((l, f, t, ()), ()) ∧ l.length ≤ 3 ∧ 0 < l.length := by
  rw [Ss_DrawCutTrack_eq]
  obtain ⟨c, e, k⟩ := draw_new x hl
  obtain ⟨l, c1, e1, k1, h1, h2⟩ := draw_track k
  obtain ⟨r2, c2, e2, _, _, k2⟩ := below_ok k1 12
  obtain ⟨r3, c3, e3, _, _, k3⟩ := below_ok k2 6
  simp only [e, e1, e2, e3, Option.bind_some, Ss_MakeRatio_val]
  exact ⟨_, _, _, rfl, h1, h2⟩
theorem point_one (x : List Int) : ∃ p, Sw_point x 1 = some (([p], ()), ()) := by
  have w1 : IntKind.i64.wrap (0 + 1) = 1 := by decide
  have d1 : decide ((([] : List (Int × Int)).length + 1) * 16 ≤ 140737488355328) = true := by decide
  have fin : ∀ r : Int × Int, Lw_point_3 x 1 ([] ++ [r]) 1 = some (([r], ()), ()) := fun r => by rw [Lw_point_3_eq]; rfl
  rw [Sw_point_eq, Lw_point_3_eq]
  simp only [show decide ((0 : Int) < 1) = true from rfl, cond_true, Ss_MakeRatio_val, Option.bind_some, d1, w1, fin]
  by_cases h : (0 : Int) < (x.length : Int)
  · have g : getI x 0 = some (x[0]'(by omega)) := getI_ok (i := 0) (by omega)
    simp only [h, decide_true, cond_true, g, Option.bind_some]
    exact ⟨_, rfl⟩
  · simp only [h, decide_false, cond_false]
    exact ⟨_, rfl⟩
theorem Sw_big_val (x : List Int) : Sw_big x = some ((decide ((x.length : Int) > 1048576), ()), ()) := Sw_big_eq x
theorem getI_one {p : Int × Int} : getI [p] 0 = some p := rfl
theorem getI_two0 {p q : Int × Int} : getI [p, q] 0 = some p := rfl
theorem getI_two1 {p q : Int × Int} : getI [p, q] 1 = some q := rfl
/-! ### graphs of lines between points -/
def lnQ (t a u b s : Qt) : Qt := a + (b - a) / (u - t) * (s - t)
/-- At s, between n points whose times rise: (x, y). -/
def AtQ (n : Nat) (T X Y : Nat → Qt) (s x y : Qt) : Prop :=
  (∃ i, i < n ∧ T i = s ∧ x = X i ∧ y = Y i) ∨ (∃ j, j + 1 < n ∧ T j < s ∧ s < T (j + 1) ∧ x = lnQ (T j) (X j) (T (j + 1)) (X (j + 1)) s ∧ y = lnQ (T j) (Y j) (T (j + 1)) (Y (j + 1)) s)
def UpQ (n : Nat) (T : Nat → Qt) : Prop := ∀ i j, i < j → j < n → T i < T j
theorem UpQ.le {n : Nat} {T : Nat → Qt} (h : UpQ n T) {i j : Nat} (hij : i ≤ j) (hj : j < n) : T i ≤ T j := by
  rcases Nat.lt_or_ge i j with h1 | h1
  · have := h i j h1 hj; grind
  · have : i = j := by omega
    subst this; grind
theorem UpQ.lt_of {n : Nat} {T : Nat → Qt} (h : UpQ n T) {i j : Nat} (hi : i < n) (hT : T i < T j) : i < j := by
  apply Classical.byContradiction
  intro hn
  have := h.le (show j ≤ i by omega) hi
  grind
theorem AtQ.uniq {n : Nat} {T X Y : Nat → Qt} (h : UpQ n T) {s x y x' y' : Qt} (h1 : AtQ n T X Y s x y) (h2 : AtQ n T X Y s x' y') : x = x' ∧ y = y' := by
  rcases h1 with ⟨i, a1, a2, a3, a4⟩ | ⟨i, a1, a2, a3, a4, a5⟩
  · rcases h2 with ⟨j, b1, b2, b3, b4⟩ | ⟨j, b1, b2, b3, b4, b5⟩
    · have : i = j := by
        rcases Nat.lt_trichotomy i j with h3 | h3 | h3
        · have := h i j h3 b1; grind
        · exact h3
        · have := h j i h3 a1; grind
      subst this
      exact ⟨a3.trans b3.symm, a4.trans b4.symm⟩
    · have c1 := h.lt_of (i := j) (j := i) (by omega) (by grind)
      have c2 := h.lt_of (i := i) (j := j + 1) a1 (by grind)
      omega
  · rcases h2 with ⟨j, b1, b2, b3, b4⟩ | ⟨j, b1, b2, b3, b4, b5⟩
    · have c1 := h.lt_of (i := i) (j := j) (by omega) (by grind)
      have c2 := h.lt_of (i := j) (j := i + 1) b1 (by grind)
      omega
    · have c1 := h.lt_of (i := i) (j := j + 1) (by omega) (by grind)
      have c2 := h.lt_of (i := j) (j := i + 1) (by omega) (by grind)
      have : i = j := by omega
      subst this
      exact ⟨a4.trans b4.symm, a5.trans b5.symm⟩
theorem lnQ_0 (t a u b : Qt) : lnQ t a u b t = a := by unfold lnQ; grind
theorem lnQ_1 {t a u b : Qt} (h : t < u) : lnQ t a u b u = b := by
  have : u - t ≠ 0 := by grind
  unfold lnQ; grind
/-- Two points of the graph with no corner between lie on one leg. -/
theorem AtQ.leg {n : Nat} {T X Y : Nat → Qt} (h : UpQ n T) {s r x y x' y' : Qt} (hsr : s < r) (hno : ∀ i, i < n → ¬ (s < T i ∧ T i < r)) (h1 : AtQ n T X Y s x y) (h2 : AtQ n T X Y r x' y') :
    ∃ j, j + 1 < n ∧ T j ≤ s ∧ r ≤ T (j + 1) ∧ x = lnQ (T j) (X j) (T (j + 1)) (X (j + 1)) s ∧ y = lnQ (T j) (Y j) (T (j + 1)) (Y (j + 1)) s ∧
      x' = lnQ (T j) (X j) (T (j + 1)) (X (j + 1)) r ∧ y' = lnQ (T j) (Y j) (T (j + 1)) (Y (j + 1)) r := by
  rcases h1 with ⟨i, a1, a2, a3, a4⟩ | ⟨i, a1, a2, a3, a4, a5⟩
  · rcases h2 with ⟨j, b1, b2, b3, b4⟩ | ⟨j, b1, b2, b3, b4, b5⟩
    · have c1 := h.lt_of (i := i) (j := j) a1 (by grind)
      have c2 := h i (i + 1) (by omega) (by omega)
      have c3 := hno (i + 1) (by omega)
      have c4 := h.le (show i + 1 ≤ j by omega) b1
      have c5 : j = i + 1 := by
        apply Classical.byContradiction
        intro hn
        have := h (i + 1) j (by omega) b1
        exact c3 ⟨by grind, by grind⟩
      subst c5
      refine ⟨i, b1, by grind, by grind, ?_, ?_, ?_, ?_⟩
      · rw [a3, ← a2, lnQ_0]
      · rw [a4, ← a2, lnQ_0]
      · rw [b3, ← b2, lnQ_1 c2]
      · rw [b4, ← b2, lnQ_1 c2]
    · have c1 := h.lt_of (i := i) (j := j + 1) a1 (by grind)
      have c5 : i = j := by
        apply Classical.byContradiction
        intro hn
        have := h i j (by omega) (by omega)
        exact hno j (by omega) ⟨by grind, by grind⟩
      subst c5
      refine ⟨i, b1, by grind, by grind, ?_, ?_, b4, b5⟩
      · rw [a3, ← a2, lnQ_0]
      · rw [a4, ← a2, lnQ_0]
  · have c0 := h i (i + 1) (by omega) a1
    rcases h2 with ⟨j, b1, b2, b3, b4⟩ | ⟨j, b1, b2, b3, b4, b5⟩
    · have c1 := h.lt_of (i := i) (j := j) (by omega) (by grind)
      have c5 : j = i + 1 := by
        apply Classical.byContradiction
        intro hn
        have := h (i + 1) j (by omega) b1
        exact hno (i + 1) (by omega) ⟨by grind, by grind⟩
      subst c5
      refine ⟨i, b1, by grind, by grind, a4, a5, ?_, ?_⟩
      · rw [b3, ← b2, lnQ_1 c0]
      · rw [b4, ← b2, lnQ_1 c0]
    · have c1 := h.lt_of (i := i) (j := j + 1) (by omega) (by grind)
      have c5 : i = j := by
        apply Classical.byContradiction
        intro hn
        have := h.le (show i + 1 ≤ j by omega) (by omega)
        exact hno (i + 1) (by omega) ⟨by grind, by grind⟩
      subst c5
      exact ⟨i, a1, by grind, by grind, a4, a5, b4, b5⟩
theorem lnQ_sub {t a u b s r q : Qt} (h : t < u) (hsr : s < r) : lnQ s (lnQ t a u b s) r (lnQ t a u b r) q = lnQ t a u b q := by
  have h1 : u - t ≠ 0 := by grind
  have h2 : r - s ≠ 0 := by grind
  unfold lnQ; grind
theorem lnQ_slope {t a u b s r : Qt} (h : t < u) (hsr : s < r) : (lnQ t a u b r - lnQ t a u b s) / (r - s) = (b - a) / (u - t) := by
  have h1 : u - t ≠ 0 := by grind
  have h2 : r - s ≠ 0 := by grind
  unfold lnQ; grind
/-- Points on a graph, and no corner of it between two that follow each other. -/
structure SubQ (n : Nat) (T X Y : Nat → Qt) (m : Nat) (T' X' Y' : Nat → Qt) : Prop where
  up : UpQ m T'
  on : ∀ k, k < m → AtQ n T X Y (T' k) (X' k) (Y' k)
  gap : ∀ k, k + 1 < m → ∀ i, i < n → ¬ (T' k < T i ∧ T i < T' (k + 1))
theorem SubQ.at {n : Nat} {T X Y : Nat → Qt} {m : Nat} {T' X' Y' : Nat → Qt} (hT : UpQ n T) (h : SubQ n T X Y m T' X' Y') {s x y : Qt} (hs : AtQ m T' X' Y' s x y) : AtQ n T X Y s x y := by
  rcases hs with ⟨k, a1, a2, a3, a4⟩ | ⟨k, a1, a2, a3, a4, a5⟩
  · have := h.on k a1
    rw [a2, ← a3, ← a4] at this
    exact this
  · have hk := h.up k (k + 1) (by omega) a1
    obtain ⟨j, b1, b2, b3, b4, b5, b6, b7⟩ := AtQ.leg hT hk (h.gap k a1) (h.on k (by omega)) (h.on (k + 1) a1)
    have hj := hT j (j + 1) (by omega) b1
    refine .inr ⟨j, b1, by grind, by grind, ?_, ?_⟩
    · rw [a4, b4, b6, lnQ_sub hj hk]
    · rw [a5, b5, b7, lnQ_sub hj hk]

/-! ### tracks as graphs -/
def tQ (l : List Stp) (i : Nat) : Qt := qv (l.getD i ((0, 0), (0, 0), 0, 0)).1
def xQ (l : List Stp) (i : Nat) : Qt := qv (l.getD i ((0, 0), (0, 0), 0, 0)).2.1
def yQ (l : List Stp) (i : Nat) : Qt := qv (l.getD i ((0, 0), (0, 0), 0, 0)).2.2
theorem tQ_is {l : List Stp} {i : Nat} (h : i < l.length) : tQ l i = qv l[i].1 := by unfold tQ; rw [List.getD_eq_getElem?_getD, List.getElem?_eq_getElem h]; rfl
theorem xQ_is {l : List Stp} {i : Nat} (h : i < l.length) : xQ l i = qv l[i].2.1 := by unfold xQ; rw [List.getD_eq_getElem?_getD, List.getElem?_eq_getElem h]; rfl
theorem yQ_is {l : List Stp} {i : Nat} (h : i < l.length) : yQ l i = qv l[i].2.2 := by unfold yQ; rw [List.getD_eq_getElem?_getD, List.getElem?_eq_getElem h]; rfl
abbrev AtL (l : List Stp) (s x y : Qt) : Prop := AtQ l.length (tQ l) (xQ l) (yQ l) s x y
theorem trk_up {l : List Stp} (h : isTrk l = true) : UpQ l.length (tQ l) := by
  intro i j hij
  induction j with
  | zero => omega
  | succ j ih =>
    intro hj
    have hj' : j < l.length := by omega
    have s1 := isTrk_spec h (j + 1) hj
    have s0 := isTrk_spec h j hj'
    have h1 := s1.2.2.2 j hj' rfl
    rw [less_qv s0.1 s1.1, decide_eq_true_eq] at h1
    rw [tQ_is hj]
    rcases Nat.lt_or_ge i j with h2 | h2
    · have := ih h2 hj'
      rw [tQ_is hj'] at this
      grind
    · have : i = j := by omega
      subst this
      rw [tQ_is hj']
      exact h1
theorem val_ln {t a u b p : Int × Int} (h : linOk (linB t a u b) = true) (hv : ratB (valB (linB t a u b) p) = true) : qv (valB (linB t a u b) p) = lnQ (qv t) (qv a) (qv u) (qv b) (qv p) := by
  have h1 := lin_ok h
  have e := (val_ok hv).2
  have n1 := h1.ne
  rw [e, h1.v1, h1.v2]
  unfold lnQ
  grind
theorem posS_at {x : List Stp} {p : Int × Int} (hx : isTrk x = true) (hp : ratB p = true) : ∀ (n i : Nat), n + i = x.length → (posS x p n i).2 = true →
    ∃ u v, (posS x p n i).1 = [u, v] ∧ ratB u = true ∧ ratB v = true ∧ AtL x (qv p) (qv u) (qv v)
  | 0, i, hn, h => by cases h
  | n + 1, i, hn, h => by
    have hi : i < x.length := by omega
    have si := isTrk_spec hx i hi
    simp only [posS, List.getElem?_eq_getElem hi, eqR] at h ⊢
    cases hd : decide (x[i].1 = p) with
    | true =>
      simp only [hd, cond_true]
      rw [decide_eq_true_eq] at hd
      exact ⟨_, _, rfl, si.2.1, si.2.2.1, .inl ⟨i, hi, by rw [tQ_is hi, hd], (xQ_is hi).symm, (yQ_is hi).symm⟩⟩
    | false =>
      simp only [hd, cond_false] at h ⊢
      cases i with
      | zero => exact posS_at hx hp n 1 (by omega) h
      | succ j =>
        have hj : j < x.length := by omega
        have sj := isTrk_spec hx j hj
        simp only [List.getElem?_eq_getElem hj] at h ⊢
        cases hb : (lessB x[j].1 p && lessB p x[j + 1].1) with
        | false =>
          simp only [hb, cond_false] at h ⊢
          exact posS_at hx hp n (j + 2) (by omega) h
        | true =>
          simp only [hb, cond_true] at h ⊢
          rw [Bool.and_eq_true, less_qv sj.1 hp, less_qv hp si.1, decide_eq_true_eq, decide_eq_true_eq] at hb
          unfold ptB at h ⊢
          cases hk : (legOk x[j] x[j + 1] && (ratB (valB (xL x[j] x[j + 1]) p) && ratB (valB (yL x[j] x[j + 1]) p))) with
          | false => rw [hk] at h; cases h
          | true =>
            simp only [cond_true]
            simp only [legOk, Bool.and_eq_true] at hk
            obtain ⟨⟨a1, a2⟩, a3, a4⟩ := hk
            refine ⟨_, _, rfl, a3, a4, .inr ⟨j, hi, by rw [tQ_is hj]; exact hb.1, by rw [tQ_is hi]; exact hb.2, ?_, ?_⟩⟩
            · rw [tQ_is hj, tQ_is hi, xQ_is hj, xQ_is hi]; exact val_ln a1 a3
            · rw [tQ_is hj, tQ_is hi, yQ_is hj, yQ_is hi]; exact val_ln a2 a4
theorem posB_at {x : List Stp} {p : Int × Int} (h : (posB x p).2 = true) : isTrk x = true ∧ ratB p = true ∧ ∃ u v, (posB x p).1 = [u, v] ∧ ratB u = true ∧ ratB v = true ∧ AtL x (qv p) (qv u) (qv v) := by
  unfold posB at h ⊢
  cases hx : isTrk x with
  | false => rw [hx] at h; cases h
  | true =>
    cases hp : ratB p with
    | false => rw [hx, hp] at h; cases h
    | true =>
      simp only [hx, hp, Bool.and_self, cond_true] at h ⊢
      exact ⟨trivial, trivial, posS_at hx hp x.length 0 (by omega) h⟩
abbrev SubL (l m : List Stp) : Prop := SubQ l.length (tQ l) (xQ l) (yQ l) m.length (tQ m) (xQ m) (yQ m)
theorem pos_sub {l m : List Stp} {p : Int × Int} (h : SubL l m) (h1 : (posB l p).2 = true) (h2 : (posB m p).2 = true) : (posB l p).1 = (posB m p).1 := by
  obtain ⟨hl, hp, u, v, e, ru, rv, a⟩ := posB_at h1
  obtain ⟨hm, _, u', v', e', ru', rv', a'⟩ := posB_at h2
  obtain ⟨q1, q2⟩ := AtQ.uniq (trk_up hl) a (h.at (trk_up hl) a')
  rw [e, e', qv_inj ru ru' q1, qv_inj rv rv' q2]

/-! ### CutTrack, in values -/
def cutB (x : List Stp) (f t : Int × Int) : List Stp × Bool := bif (posB x f).2 && ((posB x t).2 && !lessB t f) then (match (posB x f).1, (posB x t).1 with
  | [a, b], [c, d] => cutEnd f t c d ([(f, a, b)] ++ x.filter (within f t))
  | _, _ => ([], false)) else ([], false)
theorem cut_vals (x : List Stp) (f t : Int × Int) (hl : x.length ≤ 1048576) : Ss_CutTrack x f t = stR (cutB x f t) ∧ Si_CutTrack x f t = stR (cutB x f t) := by
  rw [Ss_CutTrack_eq, Si_CutTrack_eq, Ss_PositionAt_val x f hl, Ss_PositionAt_val x t hl, Si_PositionAt_val x f hl, Si_PositionAt_val x t hl]
  unfold cutB
  simp only [ptR, Option.bind_some]
  have p1 := (posB_len x f).2
  have p2 := (posB_len x t).2
  generalize posB x f = pf at p1 ⊢
  generalize posB x t = pt at p2 ⊢
  obtain ⟨pf, bf⟩ := pf
  obtain ⟨pt, bt⟩ := pt
  simp only at p1 p2 ⊢
  cases bf with
  | false => exact ⟨rfl, rfl⟩
  | true =>
    cases bt with
    | false => exact ⟨rfl, rfl⟩
    | true =>
      obtain ⟨l1, hx, hf⟩ := p1 rfl
      obtain ⟨l2, _, ht⟩ := p2 rfl
      obtain ⟨a, b, rfl⟩ := two_of l1
      obtain ⟨c, d, rfl⟩ := two_of l2
      have hn := isTrk_len hx
      have g0 : ∀ p q : Int × Int, getI [p, q] 0 = some p := fun _ _ => rfl
      have g1 : ∀ p q : Int × Int, getI [p, q] 1 = some q := fun _ _ => rfl
      simp only [Bool.not_true, cond_false, Ss_l1Less_val, cmp_val ht hf, Option.bind_some, g0, g1]
      have e1 : decide ((bif lessB t f then -1 else bif lessB f t then 1 else 0 : Int) < 0) = lessB t f := by
        cases lessB t f with
        | true => rfl
        | false => cases lessB f t <;> rfl
      rw [e1]
      cases lessB t f with
      | true => exact ⟨rfl, rfl⟩
      | false =>
        simp only [cond_false, Bool.not_false, Bool.and_self, cond_true]
        exact ⟨L47_val x f t c d hn.2 x.length 0 _ (by omega) (by simp), L48_val x f t c d hx hf ht x.length 0 _ (by omega) (by simp)⟩
theorem cutB_len (x : List Stp) (f t : Int × Int) (hx : x.length ≤ 1048576) : (cutB x f t).1.length ≤ 1048578 := by
  unfold cutB
  cases ((posB x f).2 && ((posB x t).2 && !lessB t f))
  · simp
  · rw [cond_true]
    split
    · unfold cutEnd
      refine Nat.le_trans (mvEnd_len _) ?_
      have hfl := List.length_filter_le (within f t) x
      cases (!(f.fst == t.fst && f.snd == t.snd)) <;> simp only [cond_true, cond_false, List.length_append, List.length_cons, List.length_nil] <;> omega
    · simp
/-- What a part is. -/
structure CutV (x : List Stp) (f t : Int × Int) (c : List Stp) : Prop where
  tx : isTrk x = true
  tc : isTrk c = true
  rf : ratB f = true
  rt : ratB t = true
  le : qv f ≤ qv t
  sh : ∃ a b d e, c = (f, a, b) :: x.filter (within f t) ++ (if f = t then [] else [(t, d, e)]) ∧ AtL x (qv f) (qv a) (qv b) ∧ AtL x (qv t) (qv d) (qv e)
theorem cut_is {x c : List Stp} {f t : Int × Int} (h : cutB x f t = (c, true)) : CutV x f t c := by
  unfold cutB at h
  cases hb : ((posB x f).2 && ((posB x t).2 && !lessB t f)) with
  | false => rw [hb] at h; cases h
  | true =>
    rw [hb, cond_true] at h
    simp only [Bool.and_eq_true, Bool.not_eq_true'] at hb
    obtain ⟨h1, h2, h3⟩ := hb
    obtain ⟨tx, rf, a, b, e1, ra, rb, at1⟩ := posB_at h1
    obtain ⟨_, rt, d, e, e2, rd, re, at2⟩ := posB_at h2
    rw [e1, e2] at h
    dsimp only at h
    rw [less_qv rt rf, decide_eq_false_iff_not] at h3
    unfold cutEnd mvEnd at h
    rw [eqR] at h
    by_cases hft : f = t
    · simp only [hft, decide_true, Bool.not_true, cond_false] at h
      cases hy : isTrk ([(t, a, b)] ++ x.filter (within t t)) with
      | false => rw [hy] at h; cases h
      | true =>
        rw [hy] at h
        injection h with h _
        subst h
        refine ⟨tx, hy, rf, rt, by grind, a, b, d, e, ?_, at1, at2⟩
        simp [hft]
    · simp only [hft, decide_false, Bool.not_false, cond_true] at h
      cases hy : isTrk ([(f, a, b)] ++ x.filter (within f t) ++ [(t, d, e)]) with
      | false => rw [hy] at h; cases h
      | true =>
        rw [hy] at h
        injection h with h _
        subst h
        refine ⟨tx, hy, rf, rt, by grind, a, b, d, e, ?_, at1, at2⟩
        simp [hft]
theorem CutV.mem {x c : List Stp} {f t : Int × Int} (h : CutV x f t c) : ∀ s ∈ c, qv f ≤ qv s.1 ∧ qv s.1 ≤ qv t ∧ AtL x (qv s.1) (qv s.2.1) (qv s.2.2) := by
  obtain ⟨a, b, d, e, rfl, h1, h2⟩ := h.sh
  have hle := h.le
  intro s hs
  rcases List.mem_append.1 hs with hs | hs
  · rcases List.mem_cons.1 hs with rfl | hs
    · exact ⟨by grind, hle, h1⟩
    · obtain ⟨hm, hw⟩ := List.mem_filter.1 hs
      obtain ⟨i, hi, rfl⟩ := List.mem_iff_getElem.1 hm
      have si := isTrk_spec h.tx i hi
      simp only [within, Bool.and_eq_true] at hw
      rw [less_qv h.rf si.1, less_qv si.1 h.rt, decide_eq_true_eq, decide_eq_true_eq] at hw
      exact ⟨by grind, by grind, .inl ⟨i, hi, tQ_is hi, (xQ_is hi).symm, (yQ_is hi).symm⟩⟩
  · split at hs
    · cases hs
    · rw [List.mem_singleton.1 hs]
      exact ⟨hle, by grind, h2⟩
theorem CutV.has {x c : List Stp} {f t : Int × Int} (h : CutV x f t c) {i : Nat} (hi : i < x.length) (h1 : qv f < qv x[i].1) (h2 : qv x[i].1 < qv t) : x[i] ∈ c := by
  obtain ⟨a, b, d, e, rfl, _, _⟩ := h.sh
  have si := isTrk_spec h.tx i hi
  refine List.mem_append_left _ (List.mem_cons_of_mem _ (List.mem_filter.2 ⟨List.getElem_mem hi, ?_⟩))
  simp only [within, Bool.and_eq_true]
  rw [less_qv h.rf si.1, less_qv si.1 h.rt]
  simp [h1, h2]
theorem cut_sub {x c : List Stp} {f t : Int × Int} (h : CutV x f t c) : SubL x c := by
  have hu := trk_up h.tc
  refine ⟨hu, fun k hk => ?_, fun k hk i hi hc => ?_⟩
  · rw [tQ_is hk, xQ_is hk, yQ_is hk]
    exact (h.mem _ (List.getElem_mem hk)).2.2
  · have hk0 : k < c.length := by omega
    rw [tQ_is hk0, tQ_is hi, tQ_is hk] at hc
    have m0 := h.mem _ (List.getElem_mem hk0)
    have m1 := h.mem _ (List.getElem_mem hk)
    obtain ⟨k', hk', he⟩ := List.mem_iff_getElem.1 (h.has hi (by grind) (by grind))
    have c1 := hu.lt_of (i := k) (j := k') hk0 (by rw [tQ_is hk0, tQ_is hk', he]; exact hc.1)
    have c2 := hu.lt_of (i := k') (j := k + 1) hk' (by rw [tQ_is hk, tQ_is hk', he]; exact hc.2)
    omega
theorem CutV.head {x c : List Stp} {f t : Int × Int} (h : CutV x f t c) : ∃ a b r, c = (f, a, b) :: r := by
  obtain ⟨a, b, d, e, rfl, _, _⟩ := h.sh
  exact ⟨a, b, _, rfl⟩

/-! ### JoinTracks, in values -/
def joinB (a b : List Stp) : List Stp × Bool := bif isTrk a && isTrk b then (match a.getLast?, b.head? with
  | some s, some r => bif decide (s = r) && decide (a.length + b.length - 1 ≤ 6) then (a ++ b.drop 1, true) else ([], false)
  | _, _ => ([], false)) else ([], false)
theorem eqS {a b : Stp} : (a.1.1 == b.1.1 && a.1.2 == b.1.2 && (a.2.1.1 == b.2.1.1 && a.2.1.2 == b.2.1.2 && (a.2.2.1 == b.2.2.1 && a.2.2.2 == b.2.2.2))) = decide (a = b) := by
  rw [eqR (a := a.1) (b := b.1), eqR (a := a.2.1) (b := b.2.1), eqR (a := a.2.2) (b := b.2.2), Bool.eq_iff_iff]
  obtain ⟨a1, a2, a3⟩ := a
  obtain ⟨b1, b2, b3⟩ := b
  simp
theorem Si_JoinTracks_val (a b : List Stp) (ha : a.length ≤ 1048578) (hb : b.length ≤ 1048578) : Si_JoinTracks a b = stR (joinB a b) := by
  rw [Si_JoinTracks_eq]
  have i1 : ∀ l : List Stp, l.length ≤ 1048578 → Si_IsTrack l = some ((isTrk l, ()), ()) := fun l hl => by
    rcases Nat.lt_or_ge 1048576 l.length with h | h
    · have e : isTrk l = false := by
        unfold isTrk
        have : decide ((l.length : Int) ≤ 6) = false := by simp; omega
        rw [this]; simp
      rw [Si_IsTrack_eq, e]
      have h1 : ¬ (l.length : Int) < 1 := by omega
      have h2 : (l.length : Int) > 6 := by omega
      simp [h1, h2]
    · exact Si_IsTrack_val l h
  rw [i1 a ha, i1 b hb]
  unfold joinB
  simp only [Option.bind_some]
  cases hx : isTrk a with
  | false => rfl
  | true =>
    cases hy : isTrk b with
    | false => rfl
    | true =>
      have la := isTrk_len hx
      have lb := isTrk_len hy
      simp only [Bool.not_true, cond_false, Bool.and_self, cond_true]
      have g1 : getI a (IntKind.i64.wrap ((a.length : Int) - 1)) = some (a[a.length - 1]'(by omega)) := by
        rw [show IntKind.i64.wrap ((a.length : Int) - 1) = ((a.length - 1 : Nat) : Int) by rw [wrap_id] <;> omega]
        exact getI_ok (by omega)
      have g2 : getI b 0 = some (b[0]'(by omega)) := getI_ok (i := 0) (by omega)
      have k1 : a.getLast? = some (a[a.length - 1]'(by omega)) := by rw [List.getLast?_eq_getElem?, List.getElem?_eq_getElem (by omega)]
      have k2 : b.head? = some (b[0]'(by omega)) := by rw [List.head?_eq_getElem?, List.getElem?_eq_getElem (by omega)]
      rw [g1, g2, k1, k2]
      simp only [Option.bind_some]
      rw [eqS]
      cases decide (a[a.length - 1] = b[0]) with
      | false => rfl
      | true =>
        simp only [Bool.not_true, cond_false, Bool.true_and]
        rw [show IntKind.i64.wrap (IntKind.i64.wrap ((a.length : Int) + (b.length : Int)) - 1) = ((a.length + b.length - 1 : Nat) : Int) by rw [wrap_id (x := (a.length : Int) + (b.length : Int)) (by omega) (by omega), wrap_id] <;> omega]
        by_cases h6 : a.length + b.length - 1 ≤ 6
        · have d1 : decide (((a.length + b.length - 1 : Nat) : Int) > 6) = false := by simp; omega
          have d2 : decide ((0 + a.length) * 48 ≤ 140737488355328) = true := by simp; omega
          have d3 : decide (1 ≤ (b.length : Int)) = true := by simp; omega
          have d4 : decide ((a.length + (List.drop (Int.toNat 1) (List.take b.length b)).length) * 48 ≤ 140737488355328) = true := by simp; omega
          have d5 : decide (a.length + b.length - 1 ≤ 6) = true := by simp; omega
          rw [d1, d2, d3, d4, d5]
          simp only [cond_false, cond_true, Int.zero_le_ofNat, decide_true, Int.le_refl, Bool.and_self, List.take_length]
          rfl
        · have d1 : decide (((a.length + b.length - 1 : Nat) : Int) > 6) = true := by simp; omega
          have d5 : decide (a.length + b.length - 1 ≤ 6) = false := by simp; omega
          rw [d1, d5]; rfl
theorem join_sub {x a b j : List Stp} (ha : SubL x a) (hb : SubL x b) (h : joinB a b = (j, true)) : SubL x j := by
  unfold joinB at h
  cases hxy : (isTrk a && isTrk b) with
  | false => rw [hxy] at h; cases h
  | true =>
    rw [hxy, cond_true] at h
    rw [Bool.and_eq_true] at hxy
    have la := isTrk_len hxy.1
    have lb := isTrk_len hxy.2
    have k1 : a.getLast? = some (a[a.length - 1]'(by omega)) := by rw [List.getLast?_eq_getElem?, List.getElem?_eq_getElem (by omega)]
    have k2 : b.head? = some (b[0]'(by omega)) := by rw [List.head?_eq_getElem?, List.getElem?_eq_getElem (by omega)]
    rw [k1, k2] at h
    dsimp only at h
    cases hc : (decide (a[a.length - 1] = b[0]) && decide (a.length + b.length - 1 ≤ 6)) with
    | false => rw [hc] at h; cases h
    | true =>
      rw [hc, cond_true] at h
      injection h with h _
      simp only [Bool.and_eq_true, decide_eq_true_eq] at hc
      have hjl : j.length = a.length + b.length - 1 := by rw [← h]; simp; omega
      have hg1 : ∀ k, (hk : k < a.length) → ∀ hk2 : k < j.length, j[k] = a[k] := fun k hk hk2 => by
        subst h; exact List.getElem_append_left hk
      have hg2 : ∀ k, (hk : k < b.length) → ∀ hk2 : a.length - 1 + k < j.length, j[a.length - 1 + k] = b[k] := fun k hk hk2 => by
        subst h
        cases k with
        | zero => rw [List.getElem_append_left (by omega)]; exact hc.1
        | succ k =>
          rw [List.getElem_append_right (by omega), List.getElem_drop]
          congr 1
          omega
      have t1 : ∀ k, k < a.length → tQ j k = tQ a k ∧ xQ j k = xQ a k ∧ yQ j k = yQ a k := fun k hk => by
        have hk2 : k < j.length := by omega
        rw [tQ_is hk, xQ_is hk, yQ_is hk, tQ_is hk2, xQ_is hk2, yQ_is hk2, hg1 k hk hk2]
        exact ⟨rfl, rfl, rfl⟩
      have t2 : ∀ k, k < b.length → tQ j (a.length - 1 + k) = tQ b k ∧ xQ j (a.length - 1 + k) = xQ b k ∧ yQ j (a.length - 1 + k) = yQ b k := fun k hk => by
        have hk2 : a.length - 1 + k < j.length := by omega
        rw [tQ_is hk, xQ_is hk, yQ_is hk, tQ_is hk2, xQ_is hk2, yQ_is hk2, hg2 k hk hk2]
        exact ⟨rfl, rfl, rfl⟩
      have two : ∀ k, k + 1 < j.length → (k + 1 < a.length) ∨ ∃ k', k = a.length - 1 + k' ∧ k' + 1 < b.length := fun k hk => by
        rcases Nat.lt_or_ge (k + 1) a.length with h | h
        · exact .inl h
        · exact .inr ⟨k - (a.length - 1), by omega, by omega⟩
      have step : ∀ k, k + 1 < j.length → tQ j k < tQ j (k + 1) := fun k hk => by
        rcases two k hk with h | ⟨k', rfl, h⟩
        · rw [(t1 k (by omega)).1, (t1 (k + 1) h).1]; exact ha.up k (k + 1) (by omega) h
        · rw [(t2 k' (by omega)).1, show a.length - 1 + k' + 1 = a.length - 1 + (k' + 1) by omega, (t2 (k' + 1) h).1]; exact hb.up k' (k' + 1) (by omega) h
      refine ⟨?_, fun k hk => ?_, fun k hk => ?_⟩
      · intro i k hik
        induction k with
        | zero => omega
        | succ k ih =>
          intro hk
          have s1 := step k hk
          rcases Nat.lt_or_ge i k with h2 | h2
          · have := ih h2 (by omega); grind
          · have : i = k := by omega
            subst this; exact s1
      · rcases Nat.lt_or_ge k a.length with h | h
        · rw [(t1 k h).1, (t1 k h).2.1, (t1 k h).2.2]; exact ha.on k h
        · obtain ⟨k', rfl⟩ : ∃ k', k = a.length - 1 + k' := ⟨k - (a.length - 1), by omega⟩
          have h' : k' < b.length := by omega
          rw [(t2 k' h').1, (t2 k' h').2.1, (t2 k' h').2.2]; exact hb.on k' h'
      · rcases two k hk with h | ⟨k', rfl, h⟩
        · rw [(t1 k (by omega)).1, (t1 (k + 1) h).1]; exact ha.gap k h
        · rw [(t2 k' (by omega)).1, show a.length - 1 + k' + 1 = a.length - 1 + (k' + 1) by omega, (t2 (k' + 1) h).1]; exact hb.gap k' h

/-! ### how fast a part is -/
/-- The speed is none, or that of a leg; and no leg is faster. -/
theorem gtB_qv {v r : Int × Int} (hv : ratB v = true) (hr : ratB r = true) : (gtB v r = v ∨ gtB v r = absR r) ∧ qv v ≤ qv (gtB v r) ∧ qv (absR r) ≤ qv (gtB v r) := by
  unfold gtB
  have ha := ratB_abs hr
  rw [less_qv hv ha]
  by_cases h : qv v < qv (absR r)
  · rw [decide_eq_true h, cond_true]
    exact ⟨.inr rfl, by grind, by grind⟩
  · rw [decide_eq_false h, cond_false]
    exact ⟨.inl rfl, by grind, by grind⟩
theorem spdL_qv : ∀ (l : List Leg) (v : Int × Int), legsGood l → ratB v = true → ratB (spdL l v) = true ∧ qv v ≤ qv (spdL l v) ∧ (∀ g ∈ l, qv (absR g.2.2.1.1) ≤ qv (spdL l v) ∧ qv (absR g.2.2.2.1) ≤ qv (spdL l v)) ∧
    (spdL l v = v ∨ ∃ g ∈ l, spdL l v = absR g.2.2.1.1 ∨ spdL l v = absR g.2.2.2.1)
  | [], v, _, hv => ⟨hv, by show qv v ≤ qv v; grind, by simp, .inl rfl⟩
  | g :: l, v, hg, hv => by
    have g1 := hg g (by simp)
    simp only [linOk, Bool.and_eq_true] at g1
    have a1 := gtB_qv hv g1.1.1
    have r1 := gtB_rat hv g1.1.1
    have a2 := gtB_qv r1 g1.2.1
    have r2 := gtB_rat r1 g1.2.1
    obtain ⟨b1, b2, b3, b4⟩ := spdL_qv l _ (fun q hq => hg q (List.mem_cons_of_mem _ hq)) r2
    simp only [spdL]
    refine ⟨b1, by grind, fun q hq => ?_, ?_⟩
    · rcases List.mem_cons.1 hq with rfl | hq
      · exact ⟨by grind, by grind⟩
      · exact b3 q hq
    · rcases b4 with b4 | ⟨q, hq, b4⟩
      · rw [b4]
        rcases a2.1 with e | e
        · rcases a1.1 with e' | e'
          · exact .inl (e.trans e')
          · exact .inr ⟨g, by simp, .inl (e.trans e')⟩
        · exact .inr ⟨g, by simp, .inr e⟩
      · exact .inr ⟨q, List.mem_cons_of_mem _ hq, b4⟩
theorem legsB_mem (x : List Stp) : ∀ (n i : Nat) (l r : List Leg), n + i = x.length → 1 ≤ i → legsB x n i l = some r → ∀ g ∈ r, g ∈ l ∨ ∃ k, ∃ hk : k + 1 < x.length, legOk x[k] x[k + 1] = true ∧ g = legOf x[k] x[k + 1]
  | 0, i, l, r, hn, h1, h, g, hg => by
    simp only [legsB, Option.some.injEq] at h
    subst h; exact .inl hg
  | n + 1, i, l, r, hn, h1, h, g, hg => by
    simp only [legsB] at h
    obtain ⟨k, rfl⟩ : ∃ k, i = k + 1 := ⟨i - 1, by omega⟩
    rw [Nat.add_sub_cancel, List.getElem?_eq_getElem (show k < x.length by omega), List.getElem?_eq_getElem (show k + 1 < x.length by omega)] at h
    dsimp only at h
    cases hk : legOk x[k] x[k + 1] with
    | false => rw [hk] at h; cases h
    | true =>
      rw [hk, cond_true] at h
      rcases legsB_mem x n (k + 1 + 1) _ r (by omega) (by omega) h g hg with h2 | h2
      · rcases List.mem_append.1 h2 with h2 | h2
        · exact .inl h2
        · exact .inr ⟨k, by omega, hk, List.mem_singleton.1 h2⟩
      · exact .inr h2
theorem legsB_all (x : List Stp) : ∀ (n i : Nat) (l r : List Leg), n + i = x.length → 1 ≤ i → legsB x n i l = some r → (∀ g ∈ l, g ∈ r) ∧ ∀ k, (hk : k + 1 < x.length) → i ≤ k + 1 → legOk x[k] x[k + 1] = true ∧ legOf x[k] x[k + 1] ∈ r
  | 0, i, l, r, hn, h1, h => by
    simp only [legsB, Option.some.injEq] at h
    subst h
    exact ⟨fun g hg => hg, fun k hk hi => by omega⟩
  | n + 1, i, l, r, hn, h1, h => by
    simp only [legsB] at h
    obtain ⟨k, rfl⟩ : ∃ k, i = k + 1 := ⟨i - 1, by omega⟩
    rw [Nat.add_sub_cancel, List.getElem?_eq_getElem (show k < x.length by omega), List.getElem?_eq_getElem (show k + 1 < x.length by omega)] at h
    dsimp only at h
    cases hk : legOk x[k] x[k + 1] with
    | false => rw [hk] at h; cases h
    | true =>
      rw [hk, cond_true] at h
      obtain ⟨c1, c2⟩ := legsB_all x n (k + 1 + 1) _ r (by omega) (by omega) h
      refine ⟨fun g hg => c1 g (List.mem_append_left _ hg), fun k' hk' hi => ?_⟩
      rcases Nat.lt_or_ge k k' with h2 | h2
      · exact c2 k' hk' (by omega)
      · have : k' = k := by omega
        subst this
        exact ⟨hk, c1 _ (List.mem_append_right _ (by simp))⟩
structure SpeedV (x : List Stp) (v : Int × Int) : Prop where
  rv : ratB v = true
  pos : 0 ≤ qv v
  all : ∀ k, (hk : k + 1 < x.length) → legOk x[k] x[k + 1] = true ∧ qv (absR (xL x[k] x[k + 1]).1) ≤ qv v ∧ qv (absR (yL x[k] x[k + 1]).1) ≤ qv v
  one : v = (0, 1) ∨ ∃ k, ∃ hk : k + 1 < x.length, legOk x[k] x[k + 1] = true ∧ (v = absR (xL x[k] x[k + 1]).1 ∨ v = absR (yL x[k] x[k + 1]).1)
theorem qv_01 : qv (0, 1) = 0 := by
  show ((0 : Int) : Qt) / ((1 : Int) : Qt) = 0
  have : ((0 : Int) : Qt) = 0 := rfl
  rw [this]
  grind
theorem speed_is {x : List Stp} (h : (speedB x).2 = true) : SpeedV x (speedB x).1 := by
  unfold speedB at h ⊢
  cases hx : isTrk x with
  | false => rw [hx] at h; cases h
  | true =>
    have hn := isTrk_len hx
    simp only [hx, cond_true] at h ⊢
    cases h0 : ((x.length : Int) == 1) with
    | true =>
      simp only [cond_true]
      have h0 : (x.length : Int) = 1 := by simpa using h0
      exact ⟨ratB_zero, by rw [qv_01]; grind, fun k hk => by omega, .inl rfl⟩
    | false =>
      simp only [h0, cond_false] at h ⊢
      cases e1 : legsB x (x.length - 1) 1 [] with
      | none => rw [e1] at h; cases h
      | some r =>
        dsimp only
        have hg := legsB_good x _ _ _ _ (fun g hg => by cases hg) e1
        obtain ⟨c1, c2, c3, c4⟩ := spdL_qv r (0, 1) hg ratB_zero
        rw [qv_01] at c2
        have ha := legsB_all x _ _ _ _ (by omega) (by omega) e1
        have hm := legsB_mem x _ _ _ _ (by omega) (by omega) e1
        refine ⟨c1, c2, fun k hk => ?_, ?_⟩
        · obtain ⟨d1, d2⟩ := ha.2 k hk (by omega)
          exact ⟨d1, (c3 _ d2).1, (c3 _ d2).2⟩
        · rcases c4 with c4 | ⟨g, hg2, c4⟩
          · exact .inl c4
          · rcases hm g hg2 with h5 | ⟨k, hk, h5, rfl⟩
            · cases h5
            · exact .inr ⟨k, hk, h5, c4⟩
theorem absR_of {a b : Int × Int} (ha : ratB a = true) (hb : ratB b = true) (h : qv a = qv b) : absR a = absR b := by rw [qv_inj ha hb h]
/-- A part is no faster. -/
theorem speed_sub {l m : List Stp} {v w : Int × Int} (hl : isTrk l = true) (h : SubL l m) (hv : SpeedV l v) (hw : SpeedV m w) : qv w ≤ qv v := by
  rcases hw.one with rfl | ⟨k, hk, hok, he⟩
  · rw [qv_01]; exact hv.pos
  · have hu := trk_up hl
    have hk0 : k < m.length := by omega
    have hkk := h.up k (k + 1) (by omega) hk
    obtain ⟨j, b1, b2, b3, b4, b5, b6, b7⟩ := AtQ.leg hu hkk (h.gap k hk) (h.on k hk0) (h.on (k + 1) hk)
    have hj := hu j (j + 1) (by omega) b1
    have hj0 : j < l.length := by omega
    obtain ⟨d1, d2, d3⟩ := hv.all j b1
    simp only [legOk, Bool.and_eq_true] at hok d1
    have m1 := lin_ok hok.1
    have m2 := lin_ok hok.2
    have l1 := lin_ok d1.1
    have l2 := lin_ok d1.2
    have x1 : qv (xL m[k] m[k + 1]).1 = qv (xL l[j] l[j + 1]).1 := by
      have e1 := m1.v1
      have e2 := l1.v1
      rw [tQ_is hk0, tQ_is hk] at hkk
      rw [tQ_is hj0, tQ_is b1] at hj
      rw [xQ_is hk0, tQ_is hj0, tQ_is b1, xQ_is hj0, xQ_is b1, tQ_is hk0] at b4
      rw [xQ_is hk, tQ_is hj0, tQ_is b1, xQ_is hj0, xQ_is b1, tQ_is hk] at b6
      unfold xL
      rw [e1, e2, b4, b6, lnQ_slope hj hkk]
    have y1 : qv (yL m[k] m[k + 1]).1 = qv (yL l[j] l[j + 1]).1 := by
      have e1 := m2.v1
      have e2 := l2.v1
      rw [tQ_is hk0, tQ_is hk] at hkk
      rw [tQ_is hj0, tQ_is b1] at hj
      rw [yQ_is hk0, tQ_is hj0, tQ_is b1, yQ_is hj0, yQ_is b1, tQ_is hk0] at b5
      rw [yQ_is hk, tQ_is hj0, tQ_is b1, yQ_is hj0, yQ_is b1, tQ_is hk] at b7
      unfold yL
      rw [e1, e2, b5, b7, lnQ_slope hj hkk]
    rcases he with rfl | rfl
    · have e : absR (xL m[k] m[k + 1]).1 = absR (xL l[j] l[j + 1]).1 := absR_of m1.r1 l1.r1 x1
      rw [e]; exact d2
    · have e : absR (yL m[k] m[k + 1]).1 = absR (yL l[j] l[j + 1]).1 := absR_of m2.r1 l2.r1 y1
      rw [e]; exact d3

/-! ### the law -/
theorem same_two (u v u' v' : Int × Int) : Sw_samePoint [u, v] [u', v'] = some ((decide (u = u') && decide (v = v'), ()), ()) := by
  have w0 : IntKind.i64.wrap (0 + 1) = 1 := by decide
  have w1 : IntKind.i64.wrap (1 + 1) = 2 := by decide
  rw [Sw_samePoint_eq]
  simp only [List.length_cons, List.length_nil, bne_self_eq_false, cond_false]
  rw [Lw_samePoint_4_eq]
  simp only [List.length_cons, List.length_nil, show decide ((0 : Int) < ((0 + 1 + 1 : Nat) : Int)) = true from rfl, cond_true, getI_two0, Option.bind_some, w0, eqR]
  cases decide (u = u')
  · rfl
  simp only [Bool.not_true, cond_false, Bool.true_and]
  rw [Lw_samePoint_4_eq]
  simp only [List.length_cons, List.length_nil, show decide ((1 : Int) < ((0 + 1 + 1 : Nat) : Int)) = true from rfl, cond_true, getI_two1, Option.bind_some, w1, eqR]
  cases decide (v = v')
  · rfl
  simp only [Bool.not_true, cond_false]
  rw [Lw_samePoint_4_eq]
  rfl
theorem same_self {x : Pt} (h : x.length = 2) : Sw_samePoint x x = some ((true, ()), ()) := by
  obtain ⟨u, v, rfl⟩ := two_of h
  rw [same_two]; simp

theorem joinB_len (a b : List Stp) (hb : b.length ≤ 1048578) : (joinB a b).1.length ≤ 6 := by
  unfold joinB
  cases hxy : (isTrk a && isTrk b) with
  | false => simp
  | true =>
    rw [Bool.and_eq_true] at hxy
    have la := isTrk_len hxy.1
    have lb := isTrk_len hxy.2
    rw [cond_true]
    split
    · rename_i s r _ _
      cases hc : (decide (s = r) && decide (a.length + b.length - 1 ≤ 6)) with
      | false => simp
      | true =>
        simp only [Bool.and_eq_true, decide_eq_true_eq] at hc
        simp only [cond_true, List.length_append, List.length_drop]
        omega
    · simp
theorem cutB_no {x : List Stp} {f t : Int × Int} (h : (cutB x f t).2 = false) : (cutB x f t).1 = [] := by
  unfold cutB at h ⊢
  cases hb : ((posB x f).2 && ((posB x t).2 && !lessB t f)) with
  | false => rfl
  | true =>
    rw [hb, cond_true] at h
    rw [cond_true]
    split at h
    · rename_i a b c d e1 e2
      unfold cutEnd mvEnd at h ⊢
      revert h
      generalize (bif !(f.1 == t.1 && f.2 == t.2) then [(f, a, b)] ++ x.filter (within f t) ++ [(t, c, d)] else [(f, a, b)] ++ x.filter (within f t)) = y
      intro h
      cases hy : isTrk y with
      | false => rfl
      | true => rw [hy] at h; cases h
    · rfl
theorem cuts_tail {l c : List Stp} {f p : Int × Int} (hl : l.length ≤ 3) (h0 : 0 < l.length) (hc : c.length ≤ 1048578) (hs : SubL l c) (b : Bool) (P1 : Pt) (hP : b = true → P1 = (posB l p).1 ∧ (posB l p).2 = true) :
    ((getI l 0).bind fun y_13 => (getI l 0).bind fun y_14 => (Si_CutTrack l y_14.fst f).bind fun y => (Si_JoinTracks y.fst.fst c).bind fun y_15 => (some p).bind fun y_16 => (some p).bind fun y_17 =>
      (Si_PositionAt y_15.fst.fst y_17).bind fun y_18 => bif !y.fst.snd.fst then some ((true, ()), ()) else bif !y_15.fst.snd.fst then some ((true, ()), ()) else bif !y_18.fst.snd.fst then some ((true, ()), ()) else
        bif !b then some ((true, ()), ()) else (Sw_samePoint P1 y_18.fst.fst).bind fun y => some ((y.fst.fst, ()), ())) = (some ((true, ()), ()) : Option ((Bool × PUnit) × PUnit)) := by
  have g : getI l 0 = some (l[0]'h0) := getI_ok (i := 0) h0
  rw [g, Option.bind_some, Option.bind_some, (cut_vals l l[0].1 f (by omega)).2, stR, Option.bind_some]
  have hal := cutB_len l l[0].1 f (by omega)
  have hcut : (cutB l l[0].1 f).2 = true → SubL l (cutB l l[0].1 f).1 := fun h => cut_sub (f := l[0].1) (t := f) (cut_is (Prod.ext rfl h))
  generalize cutB l l[0].1 f = A at hal hcut ⊢
  obtain ⟨A1, A2⟩ := A
  dsimp only at hal hcut ⊢
  rw [Si_JoinTracks_val A1 c hal hc, stR, Option.bind_some]
  have hjl := joinB_len A1 c hc
  have hjoin : A2 = true → (joinB A1 c).2 = true → SubL l (joinB A1 c).1 := fun h1 h2 => join_sub (hcut h1) hs (Prod.ext rfl h2)
  generalize joinB A1 c = J at hjl hjoin ⊢
  obtain ⟨J1, J2⟩ := J
  dsimp only at hjl hjoin ⊢
  rw [Option.bind_some, Option.bind_some, Si_PositionAt_val J1 p (by omega), ptR, Option.bind_some]
  have hZ : A2 = true → J2 = true → (posB J1 p).2 = true → (posB l p).2 = true → (posB l p).1 = (posB J1 p).1 := fun h1 h2 h3 h4 => pos_sub (hjoin h1 h2) h4 h3
  have hz2 := (posB_len J1 p).2
  generalize posB J1 p = Z at hZ hz2 ⊢
  obtain ⟨Z1, Z2⟩ := Z
  dsimp only at hZ hz2 ⊢
  cases A2
  · rfl
  cases J2
  · rfl
  cases Z2
  · rfl
  cases b
  · rfl
  obtain ⟨e1, e2⟩ := hP rfl
  rw [e1, hZ rfl rfl rfl e2]
  simp only [Bool.not_true, cond_false, same_self (hz2 rfl).1, Option.bind_some]
theorem law_Cuts (x : List Int) (hx : WfD (.slice 0 (.int .u8)) x) : Sw_FnCuts x = some ((true, ()), ()) := by
  rw [Sw_FnCuts_eq, Sw_big_val, Option.bind_some]
  dsimp only
  by_cases hb : (x.length : Int) > 1048576
  · rw [decide_eq_true hb]; rfl
  rw [decide_eq_false hb, cond_false]
  obtain ⟨l, f, t, ed, hl, h0⟩ := draw_cut x (by omega)
  obtain ⟨p, ep⟩ := point_one x
  have hcl := cutB_len l f t (by omega)
  rw [ed, Option.bind_some]; try dsimp only
  rw [(cut_vals l f t (by omega)).2, stR, Option.bind_some]; try dsimp only
  rw [(cut_vals l f t (by omega)).1, stR, Option.bind_some]; try dsimp only
  rw [beq_self_eq_true, Bool.not_true, cond_false]
  cases hm : (cutB l f t).2 with
  | false => rw [cutB_no hm]; rfl
  | true =>
    have hsub : SubL l (cutB l f t).1 := cut_sub (f := f) (t := t) (cut_is (Prod.ext rfl hm))
    have htl : isTrk l = true := (cut_is (f := f) (t := t) (Prod.ext rfl hm)).tx
    have hcl2 : (cutB l f t).1.length ≤ 1048576 := by
      have htc : isTrk (cutB l f t).1 = true := (cut_is (f := f) (t := t) (Prod.ext rfl hm)).tc
      have := isTrk_len htc
      omega
    generalize (cutB l f t).1 = c at hsub hcl hcl2 ⊢
    rw [Bool.not_true, cond_false, ep, Option.bind_some]; try dsimp only
    rw [getI_one, Option.bind_some]; try dsimp only
    rw [Option.bind_some]; try dsimp only
    rw [Si_PositionAt_val l p (by omega), ptR, Option.bind_some]; try dsimp only
    rw [Option.bind_some]; try dsimp only
    rw [Option.bind_some]; try dsimp only
    rw [Si_PositionAt_val c p hcl2, ptR, Option.bind_some]; try dsimp only
    rw [Si_SpeedOf_val l (by omega), Option.bind_some]; try dsimp only
    rw [Si_SpeedOf_val c hcl2, Option.bind_some]; try dsimp only
    have hpp : (posB l p).2 = true → (posB c p).2 = true → (posB l p).1 = (posB c p).1 := fun h1 h2 => pos_sub hsub h1 h2
    have hp2 := (posB_len c p).2
    have hsp : (speedB l).2 = true → (speedB c).2 = true → ratB (speedB l).1 = true ∧ ratB (speedB c).1 = true ∧ lessB (speedB l).1 (speedB c).1 = false := fun h3 h4 => by
      have v := speed_is h3
      have w := speed_is h4
      refine ⟨v.rv, w.rv, ?_⟩
      rw [less_qv v.rv w.rv, decide_eq_false_iff_not]
      have := speed_sub htl hsub v w
      grind
    have tail : ∀ (b : Bool) (P1 : Pt), (b = true → P1 = (posB l p).1 ∧ (posB l p).2 = true) → _ = _ := fun b P1 h => cuts_tail (f := f) hl h0 hcl hsub b P1 h
    have hPd : ∀ b, (posB l p).2 = b → b = true → (posB l p).1 = (posB l p).1 ∧ (posB l p).2 = true := fun b h1 h2 => ⟨rfl, by rw [h1, h2]⟩
    generalize hPP : posB l p = P at hpp tail hPd ⊢
    generalize posB c p = Q at hpp hp2 ⊢
    generalize speedB l = V at hsp ⊢
    generalize speedB c = W at hsp ⊢
    obtain ⟨P1, P2⟩ := P
    obtain ⟨Q1, Q2⟩ := Q
    obtain ⟨V1, V2⟩ := V
    obtain ⟨W1, W2⟩ := W
    dsimp only at hpp hp2 hsp hPd tail ⊢
    have tl := tail P2 P1 (fun h => ⟨rfl, h⟩)
    have spd : V2 = true → W2 = true → ∀ (A : Option ((Bool × PUnit) × PUnit)), ((Si_CompareRatios W1 V1).bind fun y => bif decide (y.fst.fst > 0) then some ((false, ()), ()) else A) = A := fun h1 h2 A => by
      obtain ⟨k1, k2, k3⟩ := hsp h1 h2
      rw [cmp_val k2 k1, Option.bind_some]
      dsimp only
      rw [k3]
      cases lessB W1 V1 <;> rfl
    have sam : P2 = true → Q2 = true → ∀ (A : Option ((Bool × PUnit) × PUnit)), ((Sw_samePoint P1 Q1).bind fun y => bif !y.fst.fst then some ((false, ()), ()) else A) = A := fun h1 h2 A => by
      rw [hpp h1 h2, same_self (hp2 h2).1]; rfl
    cases P2
    · rw [cond_false]
      cases V2
      · exact tl
      · cases W2
        · exact tl
        · rw [cond_true, cond_true, spd rfl rfl]; exact tl
    · cases Q2
      · rw [cond_true, cond_false]
        cases V2
        · exact tl
        · cases W2
          · exact tl
          · rw [cond_true, cond_true, spd rfl rfl]; exact tl
      · rw [cond_true, cond_true, sam rfl rfl]
        cases V2
        · exact tl
        · cases W2
          · exact tl
          · rw [cond_true, cond_true, spd rfl rfl]; exact tl

end Go.Proofs.Ytkanidldnnfloaa.P.It
