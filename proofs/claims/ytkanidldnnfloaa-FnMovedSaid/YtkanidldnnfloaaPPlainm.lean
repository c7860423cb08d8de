/- A part of the proof: Plainm. No conditions. -/
import Derived.Test.YtkanidldnnfloaaPIt3m
import Derived.Test.YtkanidldnnfloaaPG7
set_option linter.unusedVariables false
set_option linter.unusedSimpArgs false
namespace Go.Proofs.Ytkanidldnnfloaa.P.It
open Am
theorem wrap_id {x : Int} (h1 : -9223372036854775808 ≤ x) (h2 : x ≤ 9223372036854775807) : IntKind.i64.wrap x = x := by
  rw [IntKind.wrap_i64]; omega

theorem getI_ok {α : Type} {xs : List α} {i : Nat} (h : i < xs.length) : getI xs (i : Int) = some xs[i] := by
  unfold getI
  rw [if_pos (by omega)]
  simp [h]

/-! ### numbers -/
def numB (a : Int) : Bool := decide (-400000000 ≤ a) && decide (a ≤ 400000000)
theorem Ss_l1In_val (a b c : Int) : Ss_l1In a b c = some ((decide (b ≤ a) && decide (a ≤ c), ()), ()) := by
  rw [Ss_l1In_eq]
  by_cases h : a ≥ b
  · simp [h]
  · simp [h]
theorem Ss_IsNumber_val (a : Int) : Ss_IsNumber a = some ((numB a, ()), ()) := by
  rw [Ss_IsNumber_eq, Ss_l1In_val, Option.bind_some]; rfl
theorem Si_IsNumber_val (a : Int) : Si_IsNumber a = some ((numB a, ()), ()) := by
  rw [Si_IsNumber_eq]
  unfold numB
  by_cases h : a ≥ -400000000
  · simp [h]
  · simp [h]
theorem Si_absolute_val {a : Int} (h : numB a = true) : Si_absolute a = some (((a.natAbs : Int), ()), ()) := by
  simp only [numB, Bool.and_eq_true, decide_eq_true_eq] at h
  rw [Si_absolute_eq]
  by_cases h0 : a < 0
  · simp only [h0, decide_true, cond_true]
    rw [wrap_id (by omega) (by omega)]
    congr 3; omega
  · simp only [h0, decide_false, cond_false]
    congr 3; omega
theorem Ss_l1Abs_val {a : Int} (h : numB a = true) : Ss_l1Abs a = some (((a.natAbs : Int), ()), ()) := by
  simp only [numB, Bool.and_eq_true, decide_eq_true_eq] at h
  rw [Ss_l1Abs_eq]
  rw [wrap_id (by omega) (by omega)]
  simp only [cond_true]
  congr 3
  split <;> omega

theorem tmod_num {a b : Int} (ha : numB a = true) (hb : b ≠ 0) : numB (Int.tmod a b) = true := by
  simp only [numB, Bool.and_eq_true, decide_eq_true_eq] at ha ⊢
  have h1 := Int.natAbs_tmod a b
  have h2 : a.natAbs % b.natAbs ≤ a.natAbs := Nat.mod_le _ _
  omega

theorem L104_val : ∀ (n : Nat) (a b : Int), b.natAbs ≤ n → numB a = true → numB b = true → Ls_GcdOf_3 a b = some ((((Nat.gcd a.natAbs b.natAbs : Nat) : Int), ()), ())
  | n, a, b, hn, ha, hb => by
    rw [Ls_GcdOf_3_eq]
    by_cases h0 : b = 0
    · subst h0
      simp only [bne_self_eq_false, cond_false, Ss_l1Abs_val ha, Option.bind_some]
      simp
    · have : (b != 0) = true := by simpa using h0
      rw [this, cond_true, cond_true]
      have hlt : a.natAbs % b.natAbs < b.natAbs := Nat.mod_lt _ (by omega)
      have hm := Int.natAbs_tmod a b
      cases n with
      | zero => omega
      | succ n =>
        rw [L104_val n b (Int.tmod a b) (by omega) hb (tmod_num ha h0), hm]
        congr 4
        rw [Nat.gcd_comm a.natAbs, Nat.gcd_rec b.natAbs a.natAbs, Nat.gcd_comm]
  termination_by n => n

theorem L114_val : ∀ (n : Nat) (a b : Int), b.natAbs ≤ n → 0 ≤ a → 0 ≤ b → Li_commonDivisor_2 a b = some ((((Nat.gcd a.natAbs b.natAbs : Nat) : Int), ()), ())
  | n, a, b, hn, ha, hb => by
    rw [Li_commonDivisor_2_eq]
    by_cases h0 : b = 0
    · subst h0
      simp only [bne_self_eq_false, cond_false]
      simp
      omega
    · have : (b != 0) = true := by simpa using h0
      rw [this, cond_true, cond_true]
      have hlt : a.natAbs % b.natAbs < b.natAbs := Nat.mod_lt _ (by omega)
      have hm := Int.natAbs_tmod a b
      cases n with
      | zero => omega
      | succ n =>
        rw [L114_val n b (Int.tmod a b) (by omega) hb (Int.tmod_nonneg _ ha), hm]
        congr 4
        rw [Nat.gcd_comm a.natAbs, Nat.gcd_rec b.natAbs a.natAbs, Nat.gcd_comm]
  termination_by n => n

def gcdB (a b : Int) : Int := bif numB a && numB b then ((Nat.gcd a.natAbs b.natAbs : Nat) : Int) else 0
theorem Ss_GcdOf_val (a b : Int) : Ss_GcdOf a b = some ((gcdB a b, ()), ()) := by
  rw [Ss_GcdOf_eq, Ss_IsNumber_val, Ss_IsNumber_val]
  unfold gcdB
  cases ha : numB a <;> cases hb : numB b <;> simp only [Option.bind_some, Bool.not_true, Bool.not_false, cond_true, cond_false, Bool.and_true, Bool.and_false, Bool.and_self]
  exact L104_val _ a b (Nat.le_refl _) ha hb
theorem Si_GcdOf_val (a b : Int) : Si_GcdOf a b = some ((gcdB a b, ()), ()) := by
  rw [Si_GcdOf_eq, Si_IsNumber_val, Si_IsNumber_val]
  unfold gcdB
  cases ha : numB a <;> cases hb : numB b <;> simp only [Option.bind_some, Bool.not_true, Bool.not_false, cond_true, cond_false, Bool.and_true, Bool.and_false, Bool.and_self]
  rw [Si_commonDivisor_eq, Si_absolute_val ha, Si_absolute_val hb]
  simp only [Option.bind_some]
  rw [L114_val _ _ _ (Nat.le_refl _) (by omega) (by omega)]
  simp

def ratB (r : Int × Int) : Bool := decide (1 ≤ r.2) && decide (r.2 ≤ 400000000) && numB r.1 && (gcdB r.1 r.2 == 1)
theorem Ss_IsRatio_val (r : Int × Int) : Ss_IsRatio r = some ((ratB r, ()), ()) := by
  rw [Ss_IsRatio_eq, Ss_l1In_val, Ss_IsNumber_val, Ss_GcdOf_val]
  unfold ratB
  simp only [Option.bind_some]
  cases h1 : (decide (1 ≤ r.2) && decide (r.2 ≤ 400000000)) <;> cases h2 : numB r.1 <;> simp
theorem Si_IsRatio_val (r : Int × Int) : Si_IsRatio r = some ((ratB r, ()), ()) := by
  rw [Si_IsRatio_eq, Si_IsNumber_val, Si_GcdOf_val]
  unfold ratB
  simp only [Option.bind_some, ge_iff_le]
  cases h1 : decide (1 ≤ r.2) <;> cases h3 : decide (r.2 ≤ 400000000) <;> cases h2 : numB r.1 <;> simp

def lessB (a b : Int × Int) : Bool := decide (IntKind.i64.wrap (a.1 * b.2) < IntKind.i64.wrap (b.1 * a.2))
theorem Ss_l1Less_val (a b : Int × Int) : Ss_l1Less a b = some ((lessB a b, ()), ()) := Ss_l1Less_eq a b
theorem Si_CompareRatios_val {a b : Int × Int} (ha : ratB a = true) (hb : ratB b = true) : ∃ c, Si_CompareRatios a b = some ((c, ()), ()) ∧ (c != -1) = !lessB a b := by
  rw [Si_CompareRatios_eq, Si_IsRatio_val, Si_IsRatio_val]
  simp only [Option.bind_some, ha, hb, Bool.not_true, cond_false]
  change ∃ c, (bif lessB a b then _ else _) = _ ∧ _
  cases h : lessB a b with
  | true => exact ⟨-1, rfl, rfl⟩
  | false =>
    rw [cond_false]
    cases h2 : decide (IntKind.i64.wrap (a.1 * b.2) > IntKind.i64.wrap (b.1 * a.2)) with
    | true => exact ⟨1, rfl, rfl⟩
    | false => exact ⟨0, rfl, rfl⟩

/-! ### tracks -/
abbrev Stp := (Int × Int) × (Int × Int) × Int × Int
def trk (x : List Stp) : Nat → Nat → Bool
  | 0, _ => true
  | n + 1, i => (match x[i]? with
    | some s => ratB s.1 && ratB s.2.1 && ratB s.2.2 && (match i with
      | 0 => true
      | j + 1 => match x[j]? with
        | some s' => lessB s'.1 s.1
        | none => true)
    | none => true) && trk x n (i + 1)

theorem L14_val (x : List Stp) (hl : x.length ≤ 1048576) : ∀ (n i : Nat), n + i = x.length → Ls_IsTrack_2 x (i : Int) = some ((trk x n i && (decide (1 ≤ (x.length : Int)) && decide ((x.length : Int) ≤ 6)), ()), ())
  | 0, i, hn => by
    rw [Ls_IsTrack_2_eq]
    have : decide ((i : Int) < (x.length : Int)) = false := by simp; omega
    rw [this, cond_false, Ss_l1In_val]
    simp [trk]
  | n + 1, i, hn => by
    rw [Ls_IsTrack_2_eq]
    have hi : i < x.length := by omega
    have : decide ((i : Int) < (x.length : Int)) = true := by simp; omega
    rw [this, cond_true, getI_ok hi]
    simp only [Option.bind_some, Ss_IsRatio_val]
    rw [show IntKind.i64.wrap ((i : Int) + 1) = ((i + 1 : Nat) : Int) by rw [wrap_id] <;> omega, L14_val x hl n (i + 1) (by omega)]
    simp only [trk, List.getElem?_eq_getElem hi]
    cases h1 : ratB x[i].1 <;> cases h2 : ratB x[i].2.1 <;> cases h3 : ratB x[i].2.2 <;> simp
    cases i with
    | zero => simp
    | succ j =>
      have : (0 : Int) < ((j + 1 : Nat) : Int) := by omega
      simp only [this, decide_true, cond_true]
      rw [show IntKind.i64.wrap (((j + 1 : Nat) : Int) - 1) = ((j : Nat) : Int) by rw [wrap_id] <;> omega, getI_ok (by omega)]
      simp only [Option.bind_some, Ss_l1Less_val, List.getElem?_eq_getElem (show j < x.length by omega)]
      cases lessB x[j].1 x[j + 1].1 <;> simp

theorem L16_val (x : List Stp) (hl : x.length ≤ 1048576) : ∀ (n i : Nat), n + i = x.length → (∀ j (h : j < x.length), i = j + 1 → ratB x[j].1 = true) → Li_IsTrack_4 x x (x.length : Int) (i : Int) = some ((trk x n i, ()), ())
  | 0, i, hn, _ => by
    rw [Li_IsTrack_4_eq]
    have : decide ((i : Int) < (x.length : Int)) = false := by simp; omega
    rw [this, cond_false]
    rfl
  | n + 1, i, hn, hp => by
    rw [Li_IsTrack_4_eq]
    have hi : i < x.length := by omega
    have : decide ((i : Int) < (x.length : Int)) = true := by simp; omega
    rw [this, cond_true, getI_ok hi]
    simp only [Option.bind_some, Si_IsRatio_val]
    simp only [trk, List.getElem?_eq_getElem hi]
    cases h1 : ratB x[i].1
    · simp
    rw [show IntKind.i64.wrap ((i : Int) + 1) = ((i + 1 : Nat) : Int) by rw [wrap_id] <;> omega, L16_val x hl n (i + 1) (by omega) (fun j hj e => by
      have : j = i := by omega
      subst this
      exact h1)]
    cases h2 : ratB x[i].2.1 <;> cases h3 : ratB x[i].2.2 <;> simp
    cases i with
    | zero => simp
    | succ j =>
      have : (0 : Int) < ((j + 1 : Nat) : Int) := by omega
      simp only [this, decide_true, cond_true]
      rw [show IntKind.i64.wrap (((j + 1 : Nat) : Int) - 1) = ((j : Nat) : Int) by rw [wrap_id] <;> omega, getI_ok (by omega)]
      simp only [Option.bind_some, List.getElem?_eq_getElem (show j < x.length by omega)]
      obtain ⟨c, hc, hc2⟩ := Si_CompareRatios_val (hp j (by omega) rfl) h1
      rw [hc]
      simp only [Option.bind_some, hc2]
      cases lessB x[j].1 x[j + 1].1 <;> simp

theorem isTrack_same (x : List Stp) (hl : x.length ≤ 1048576) : ∃ b, Ss_IsTrack x = some ((b, ()), ()) ∧ Si_IsTrack x = some ((b, ()), ()) := by
  refine ⟨trk x x.length 0 && (decide (1 ≤ (x.length : Int)) && decide ((x.length : Int) ≤ 6)), ?_, ?_⟩
  · rw [Ss_IsTrack_eq]
    exact L14_val x hl x.length 0 (by omega)
  · rw [Si_IsTrack_eq]
    by_cases h1 : (x.length : Int) < 1
    · have : ¬ (1 ≤ (x.length : Int)) := by omega
      simp [h1, this]
    · by_cases h2 : (x.length : Int) > 6
      · have : ¬ ((x.length : Int) ≤ 6) := by omega
        simp only [h1, h2, decide_false, decide_true, cond_false, cond_true, this]
        simp
      · have e1 : 1 ≤ (x.length : Int) := by omega
        have e2 : (x.length : Int) ≤ 6 := by omega
        simp only [h1, h2, decide_false, cond_false, e1, e2, decide_true, Bool.and_self, Bool.and_true]
        exact L16_val x hl x.length 0 (by omega) (fun j _ e => by omega)

/-! ### ratios -/
theorem abs71 {a : Int} (h : a.natAbs ≤ 4000000000000000000) : Si_absolute a = some (((a.natAbs : Int), ()), ()) := by
  rw [Si_absolute_eq]
  by_cases h0 : a < 0
  · simp only [h0, decide_true, cond_true]
    rw [wrap_id (by omega) (by omega)]
    congr 3; omega
  · simp only [h0, decide_false, cond_false]
    congr 3; omega
theorem abs124 {a : Int} (h : a.natAbs ≤ 4000000000000000000) : Ss_l1Abs a = some (((a.natAbs : Int), ()), ()) := by
  rw [Ss_l1Abs_eq]
  rw [wrap_id (by omega) (by omega)]
  simp only [cond_true]
  congr 3
  split <;> omega

theorem tdiv_le (a b : Int) : (a.tdiv b).natAbs ≤ a.natAbs := by
  rw [Int.natAbs_tdiv]
  exact Nat.div_le_self _ _

def low (n d : Int) : Int × Int := bif ratB (n.tdiv (Nat.gcd n.natAbs d.natAbs : Nat), d.tdiv (Nat.gcd n.natAbs d.natAbs : Nat)) then (n.tdiv (Nat.gcd n.natAbs d.natAbs : Nat), d.tdiv (Nat.gcd n.natAbs d.natAbs : Nat)) else (0, 0)
def redB (n d : Int) : Int × Int := bif d == 0 then (0, 0) else bif decide (d < 0) then low (-n) (-d) else low n d

theorem L90_val : ∀ (k : Nat) (n d : Int) (x4 : Int × Int) (a b : Int), b.natAbs ≤ k → a.natAbs ≤ 4000000000000000000 → b.natAbs ≤ 4000000000000000000 → n.natAbs ≤ 4000000000000000000 → d.natAbs ≤ 4000000000000000000 →
    Nat.gcd a.natAbs b.natAbs = Nat.gcd n.natAbs d.natAbs → Nat.gcd n.natAbs d.natAbs ≠ 0 → Ls_l2Make_7 n d x4 a b = some ((low n d, ()), ())
  | k, n, d, x4, a, b, hk, ha, hb, hn, hd, hg, h0 => by
    rw [Ls_l2Make_7_eq]
    by_cases hb0 : b = 0
    · subst hb0
      simp only [bne_self_eq_false, cond_false, abs124 ha, Option.bind_some]
      have hg' : a.natAbs = Nat.gcd n.natAbs d.natAbs := by simpa using hg
      have hne : ((a.natAbs : Int) != 0) = true := by simp; omega
      rw [hne, cond_true, cond_true, hg']
      have e1 := tdiv_le n ((Nat.gcd n.natAbs d.natAbs : Nat) : Int)
      have e2 := tdiv_le d ((Nat.gcd n.natAbs d.natAbs : Nat) : Int)
      rw [wrap_id (by omega) (by omega), wrap_id (by omega) (by omega), Ss_IsRatio_val]
      simp only [Option.bind_some]
      unfold low
      cases ratB (n.tdiv (Nat.gcd n.natAbs d.natAbs : Nat), d.tdiv (Nat.gcd n.natAbs d.natAbs : Nat)) <;> rfl
    · have : (b != 0) = true := by simpa using hb0
      rw [this, cond_true, cond_true]
      have hlt : a.natAbs % b.natAbs < b.natAbs := Nat.mod_lt _ (by omega)
      have hm := Int.natAbs_tmod a b
      cases k with
      | zero => omega
      | succ k =>
        refine L90_val k n d x4 b (Int.tmod a b) (by omega) hb (by omega) hn hd ?_ h0
        rw [hm, ← hg, Nat.gcd_comm a.natAbs, Nat.gcd_rec b.natAbs a.natAbs, Nat.gcd_comm]
  termination_by k => k

theorem Ss_l2Make_val {n d : Int} (hn : n.natAbs ≤ 4000000000000000000) (hd : d.natAbs ≤ 4000000000000000000) : Ss_l2Make n d = some ((redB n d, ()), ()) := by
  rw [Ss_l2Make_eq]
  unfold redB
  by_cases h0 : d = 0
  · subst h0
    rfl
  · have : (d == 0) = false := by simpa using h0
    rw [this, cond_false, cond_false]
    have hg : Nat.gcd n.natAbs d.natAbs ≠ 0 := fun h => by
      have := Nat.gcd_eq_zero_iff.1 h
      omega
    by_cases hs : d < 0
    · simp only [hs, decide_true, cond_true]
      rw [wrap_id (by omega) (by omega), wrap_id (by omega) (by omega), Int.zero_sub, Int.zero_sub]
      exact L90_val _ _ _ _ _ _ (Nat.le_refl _) (by omega) (by omega) (by omega) (by omega) rfl (by rwa [Int.natAbs_neg, Int.natAbs_neg])
    · simp only [hs, decide_false, cond_false]
      exact L90_val _ _ _ _ _ _ (Nat.le_refl _) (by omega) (by omega) (by omega) (by omega) rfl hg

theorem Si_commonDivisor_val {a b : Int} (ha : a.natAbs ≤ 4000000000000000000) (hb : b.natAbs ≤ 4000000000000000000) : Si_commonDivisor a b = some ((((Nat.gcd a.natAbs b.natAbs : Nat) : Int), ()), ()) := by
  rw [Si_commonDivisor_eq, abs71 ha, abs71 hb]
  simp only [Option.bind_some]
  rw [L114_val _ _ _ (Nat.le_refl _) (by omega) (by omega)]
  simp

theorem Si_reducedRatio_val {n d : Int} (hn : n.natAbs ≤ 4000000000000000000) (hd : d.natAbs ≤ 4000000000000000000) : Si_reducedRatio n d = some ((redB n d, ()), ()) := by
  rw [Si_reducedRatio_eq]
  unfold redB
  by_cases h0 : d = 0
  · subst h0
    rfl
  · have : (d == 0) = false := by simpa using h0
    rw [this, cond_false, cond_false]
    have hg : Nat.gcd n.natAbs d.natAbs ≠ 0 := fun h => by
      have := Nat.gcd_eq_zero_iff.1 h
      omega
    have hlow : ∀ n d : Int, n.natAbs ≤ 4000000000000000000 → d.natAbs ≤ 4000000000000000000 → Nat.gcd n.natAbs d.natAbs ≠ 0 →
        ((Si_commonDivisor n d).bind fun (y : (Int × PUnit) × PUnit) =>
      bif y.fst.fst != 0 then
        bif y.fst.fst != 0 then
          (Si_IsRatio (IntKind.i64.wrap (n.tdiv y.fst.fst), IntKind.i64.wrap (d.tdiv y.fst.fst))).bind
            fun (y_1 : (Bool × PUnit) × PUnit) =>
            bif !y_1.fst.fst then some (((ty3.zero, (Ty.int IntKind.i64).zero), ()), ())
            else some (((IntKind.i64.wrap (n.tdiv y.fst.fst), IntKind.i64.wrap (d.tdiv y.fst.fst)), ()), ())
        else none
      else none) = some ((low n d, ()), ()) := by
      intro n d hn hd hg
      rw [Si_commonDivisor_val hn hd]
      simp only [Option.bind_some]
      have hne : (((Nat.gcd n.natAbs d.natAbs : Nat) : Int) != 0) = true := by
        simp only [bne_iff_ne, ne_eq]
        omega
      have e1 := tdiv_le n ((Nat.gcd n.natAbs d.natAbs : Nat) : Int)
      have e2 := tdiv_le d ((Nat.gcd n.natAbs d.natAbs : Nat) : Int)
      rw [hne, cond_true, cond_true, wrap_id (by omega) (by omega), wrap_id (by omega) (by omega), Si_IsRatio_val]
      simp only [Option.bind_some]
      unfold low
      cases ratB (n.tdiv (Nat.gcd n.natAbs d.natAbs : Nat), d.tdiv (Nat.gcd n.natAbs d.natAbs : Nat)) <;> rfl
    by_cases hs : d < 0
    · simp only [hs, decide_true, cond_true]
      rw [wrap_id (x := 0 - n) (by omega) (by omega), wrap_id (x := 0 - d) (by omega) (by omega), Int.zero_sub, Int.zero_sub]
      exact hlow _ _ (by omega) (by omega) (by rwa [Int.natAbs_neg, Int.natAbs_neg])
    · simp only [hs, decide_false, cond_false]
      exact hlow _ _ hn hd hg

theorem rat_bd {r : Int × Int} (h : ratB r = true) : r.1.natAbs ≤ 400000000 ∧ r.2.natAbs ≤ 400000000 ∧ 1 ≤ r.2 := by
  simp only [ratB, numB, Bool.and_eq_true, decide_eq_true_eq] at h
  omega

theorem prod_bd {a b : Int} (ha : a.natAbs ≤ 400000000) (hb : b.natAbs ≤ 400000000) : (a * b).natAbs ≤ 160000000000000000 := by
  rw [Int.natAbs_mul]
  exact Nat.mul_le_mul ha hb

theorem wrap_prod {a b : Int} (ha : a.natAbs ≤ 400000000) (hb : b.natAbs ≤ 400000000) : IntKind.i64.wrap (a * b) = a * b := by
  have := prod_bd ha hb
  exact wrap_id (by omega) (by omega)

def addB (a b : Int × Int) : Int × Int := bif ratB a && ratB b then redB (a.1 * b.2 + b.1 * a.2) (a.2 * b.2) else (0, 0)
theorem Ss_AddRatios_val (a b : Int × Int) : Ss_AddRatios a b = some ((addB a b, ()), ()) := by
  rw [Ss_AddRatios_eq, Ss_IsRatio_val, Ss_IsRatio_val]
  unfold addB
  cases ha : ratB a <;> cases hb : ratB b <;> simp only [Option.bind_some, Bool.not_true, Bool.not_false, cond_true, cond_false, Bool.and_true, Bool.and_false, Bool.and_self]
  obtain ⟨a1, a2, _⟩ := rat_bd ha
  obtain ⟨b1, b2, _⟩ := rat_bd hb
  have e1 := prod_bd a1 b2
  have e2 := prod_bd b1 a2
  have e3 := prod_bd a2 b2
  rw [wrap_prod a1 b2, wrap_prod b1 a2, wrap_prod a2 b2, wrap_id (by omega) (by omega), Ss_l2Make_val (by omega) (by omega)]
  rfl
theorem Si_AddRatios_val (a b : Int × Int) : Si_AddRatios a b = some ((addB a b, ()), ()) := by
  rw [Si_AddRatios_eq, Si_IsRatio_val, Si_IsRatio_val]
  unfold addB
  cases ha : ratB a <;> cases hb : ratB b <;> simp only [Option.bind_some, Bool.not_true, Bool.not_false, cond_true, cond_false, Bool.and_true, Bool.and_false, Bool.and_self]
  obtain ⟨a1, a2, _⟩ := rat_bd ha
  obtain ⟨b1, b2, _⟩ := rat_bd hb
  have e1 := prod_bd a1 b2
  have e2 := prod_bd b1 a2
  have e3 := prod_bd a2 b2
  rw [wrap_prod a1 b2, wrap_prod b1 a2, wrap_prod a2 b2, wrap_id (by omega) (by omega), Si_reducedRatio_val (by omega) (by omega)]
  rfl

/-! ### tracks, again -/
def isTrk (x : List Stp) : Bool := trk x x.length 0 && (decide (1 ≤ (x.length : Int)) && decide ((x.length : Int) ≤ 6))
theorem Ss_IsTrack_val (x : List Stp) (hl : x.length ≤ 1048576) : Ss_IsTrack x = some ((isTrk x, ()), ()) := by
  rw [Ss_IsTrack_eq]
  exact L14_val x hl x.length 0 (by omega)
theorem Si_IsTrack_val (x : List Stp) (hl : x.length ≤ 1048576) : Si_IsTrack x = some ((isTrk x, ()), ()) := by
  obtain ⟨b, h1, h2⟩ := isTrack_same x hl
  rw [Ss_IsTrack_val x hl] at h1
  injection h1 with h1
  injection h1 with h1 _
  injection h1 with h1 _
  rw [h2, h1]
theorem isTrk_len {x : List Stp} (h : isTrk x = true) : 1 ≤ x.length ∧ x.length ≤ 6 := by
  simp only [isTrk, Bool.and_eq_true, decide_eq_true_eq] at h
  omega

/-! ### marks -/
/-! ### JoinTracks -/
/-! ### MoveTrack -/
def mvS (a b c : Int × Int) (s : Stp) : Stp := (addB s.1 a, addB s.2.1 b, addB s.2.2 c)
def mvEnd (y : List Stp) : List Stp × Bool := bif !isTrk y then ([], false) else (y, true)

theorem mvEnd_len (y : List Stp) : (mvEnd y).1.length ≤ y.length := by
  unfold mvEnd
  cases isTrk y <;> simp

theorem L22_val (x : List Stp) (a b c : Int × Int) (hx : isTrk x = true) : ∀ (n i : Nat) (y : List Stp), n + i = x.length → y.length = i → Ls_MoveTrack_3 x a b c y (i : Int) = some (((mvEnd (y ++ (x.drop i).map (mvS a b c))).1, (mvEnd (y ++ (x.drop i).map (mvS a b c))).2, ()), ())
  | 0, i, y, hn, hy => by
    have hl := isTrk_len hx
    rw [Ls_MoveTrack_3_eq]
    have : decide ((i : Int) < (x.length : Int)) = false := by simp; omega
    rw [this, cond_false, Ss_IsTrack_val y (by omega), List.drop_eq_nil_of_le (by omega)]
    simp only [Option.bind_some, List.map_nil, List.append_nil, mvEnd]
    cases isTrk y <;> rfl
  | n + 1, i, y, hn, hy => by
    have hl := isTrk_len hx
    rw [Ls_MoveTrack_3_eq]
    have hi : i < x.length := by omega
    have : decide ((i : Int) < (x.length : Int)) = true := by simp; omega
    rw [this, cond_true, Ss_IsTrack_val x (by omega), hx, getI_ok hi]
    simp only [Option.bind_some, cond_true, Ss_AddRatios_val]
    have hd : decide ((y.length + 1) * 48 ≤ 140737488355328) = true := by simp; omega
    rw [hd, cond_true, show IntKind.i64.wrap ((i : Int) + 1) = ((i + 1 : Nat) : Int) by rw [wrap_id] <;> omega, L22_val x a b c hx n (i + 1) _ (by omega) (by simp; omega)]
    rw [List.drop_eq_getElem_cons hi, List.map_cons, List.append_assoc]
    rfl

theorem L24_val (x : List Stp) (a b c : Int × Int) (hl : x.length ≤ 6) : ∀ (n i : Nat) (y : List Stp), n + i = x.length → y.length = i → Li_MoveTrack_5 x a b c y x (x.length : Int) (i : Int) = some (((mvEnd (y ++ (x.drop i).map (mvS a b c))).1, (mvEnd (y ++ (x.drop i).map (mvS a b c))).2, ()), ())
  | 0, i, y, hn, hy => by
    rw [Li_MoveTrack_5_eq]
    have : decide ((i : Int) < (x.length : Int)) = false := by simp; omega
    rw [this, cond_false, Si_IsTrack_val y (by omega), List.drop_eq_nil_of_le (by omega)]
    simp only [Option.bind_some, List.map_nil, List.append_nil, mvEnd]
    cases isTrk y <;> rfl
  | n + 1, i, y, hn, hy => by
    rw [Li_MoveTrack_5_eq]
    have hi : i < x.length := by omega
    have : decide ((i : Int) < (x.length : Int)) = true := by simp; omega
    rw [this, cond_true, getI_ok hi]
    simp only [Option.bind_some, Si_AddRatios_val]
    have hd : decide ((y.length + 1) * 48 ≤ 140737488355328) = true := by simp; omega
    rw [hd, cond_true, show IntKind.i64.wrap ((i : Int) + 1) = ((i + 1 : Nat) : Int) by rw [wrap_id] <;> omega, L24_val x a b c hl n (i + 1) _ (by omega) (by simp; omega)]
    rw [List.drop_eq_getElem_cons hi, List.map_cons, List.append_assoc]
    rfl

/-! ### more of ratios -/
def negB (a : Int × Int) : Int × Int := bif ratB a then (-a.1, a.2) else (0, 0)
theorem Si_NegateRatio_val (a : Int × Int) : Si_NegateRatio a = some ((negB a, ()), ()) := by
  rw [Si_NegateRatio_eq, Si_IsRatio_val]
  unfold negB
  cases ha : ratB a <;> simp only [Option.bind_some, Bool.not_true, Bool.not_false, cond_true, cond_false]
  obtain ⟨a1, a2, _⟩ := rat_bd ha
  rw [wrap_id (by omega) (by omega), Int.zero_sub]
theorem Si_subtractRatios_val (a b : Int × Int) : Si_subtractRatios a b = some ((addB a (negB b), ()), ()) := by
  rw [Si_subtractRatios_eq, Si_NegateRatio_val]
  simp only [Option.bind_some, Si_AddRatios_val]
def divB (a b : Int × Int) : Int × Int := bif ratB a && ratB b then (bif b.1 == 0 then (0, 0) else redB (a.1 * b.2) (a.2 * b.1)) else (0, 0)
theorem Si_DivideRatios_val (a b : Int × Int) : Si_DivideRatios a b = some ((divB a b, ()), ()) := by
  rw [Si_DivideRatios_eq, Si_IsRatio_val, Si_IsRatio_val]
  unfold divB
  cases ha : ratB a <;> cases hb : ratB b <;> simp only [Option.bind_some, Bool.not_true, Bool.not_false, cond_true, cond_false, Bool.and_true, Bool.and_false, Bool.and_self]
  obtain ⟨a1, a2, _⟩ := rat_bd ha
  obtain ⟨b1, b2, _⟩ := rat_bd hb
  have e1 := prod_bd a1 b2
  have e3 := prod_bd a2 b1
  cases (b.1 == 0)
  · rw [cond_false, cond_false, wrap_prod a1 b2, wrap_prod a2 b1, Si_reducedRatio_val (by omega) (by omega)]
    rfl
  · rfl
def mulB (a b : Int × Int) : Int × Int := bif ratB a && ratB b then redB (a.1 * b.1) (a.2 * b.2) else (0, 0)
theorem Si_MultiplyRatios_val (a b : Int × Int) : Si_MultiplyRatios a b = some ((mulB a b, ()), ()) := by
  rw [Si_MultiplyRatios_eq, Si_IsRatio_val, Si_IsRatio_val]
  unfold mulB
  cases ha : ratB a <;> cases hb : ratB b <;> simp only [Option.bind_some, Bool.not_true, Bool.not_false, cond_true, cond_false, Bool.and_true, Bool.and_false, Bool.and_self]
  obtain ⟨a1, a2, _⟩ := rat_bd ha
  obtain ⟨b1, b2, _⟩ := rat_bd hb
  have e1 := prod_bd a1 b1
  have e3 := prod_bd a2 b2
  rw [wrap_prod a1 b1, wrap_prod a2 b2, Si_reducedRatio_val (by omega) (by omega)]
  rfl

/-! ### legs -/
abbrev Lin := (Int × Int) × Int × Int
/-- The line from a at t to b at u. -/
def linB (t a u b : Int × Int) : Lin := (divB (addB b (negB a)) (addB u (negB t)), addB a (negB (mulB (divB (addB b (negB a)) (addB u (negB t))) t)))
theorem Si_lineBetween_val (a t b u : Int × Int) : Si_lineBetween a t b u = some ((linB t a u b, ()), ()) := by
  rw [Si_lineBetween_eq]
  simp only [Si_subtractRatios_val, Si_DivideRatios_val, Si_MultiplyRatios_val, Option.bind_some]
  rfl
def linOk (l : Lin) : Bool := ratB l.1 && ratB l.2
theorem Si_line_valid_val (l : Lin) : Si_line_valid l = some ((linOk l, ()), ()) := by
  rw [Si_line_valid_eq, Si_IsRatio_val]
  simp only [Option.bind_some, Si_IsRatio_val]
  unfold linOk
  cases ratB l.1 <;> rfl
def xL (a b : Stp) : Lin := linB a.1 a.2.1 b.1 b.2.1
def yL (a b : Stp) : Lin := linB a.1 a.2.2 b.1 b.2.2
def legOk (a b : Stp) : Bool := linOk (xL a b) && linOk (yL a b)
abbrev Leg := (Int × Int) × (Int × Int) × Lin × Lin
def legOf (a b : Stp) : Leg := (a.1, b.1, xL a b, yL a b)
theorem Si_legBetween_val (a b : Stp) : Si_legBetween a b = some ((legOf a b, legOk a b, ()), ()) := by
  rw [Si_legBetween_eq]
  simp only [Si_lineBetween_val, Si_line_valid_val, Option.bind_some]
  unfold legOk
  change (bif linOk (xL a b) then some ((legOf a b, linOk (yL a b), ()), ()) else some ((legOf a b, false, ()), ())) = _
  cases linOk (xL a b) <;> rfl

/-! ### SpeedOf -/
def absR (r : Int × Int) : Int × Int := ((r.1.natAbs : Int), r.2)
theorem ratB_abs {r : Int × Int} (h : ratB r = true) : ratB (absR r) = true := by
  have hb := rat_bd h
  have e1 : numB ((r.1.natAbs : Nat) : Int) = true := by
    simp only [numB, Bool.and_eq_true, decide_eq_true_eq]
    omega
  have e2 : numB r.1 = true := by
    simp only [numB, Bool.and_eq_true, decide_eq_true_eq]
    omega
  simp only [ratB, absR, gcdB, e1, e2, Int.natAbs_natCast] at h ⊢
  exact h
theorem ratB_zero : ratB (0, 1) = true := by decide
/-- The greater of two. -/
def gtB (v r : Int × Int) : Int × Int := bif lessB v (absR r) then absR r else v
theorem gtB_rat {v r : Int × Int} (hv : ratB v = true) (hr : ratB r = true) : ratB (gtB v r) = true := by
  unfold gtB
  cases lessB v (absR r)
  · exact hv
  · exact ratB_abs hr
theorem cmp_gt {a b : Int × Int} (ha : ratB a = true) (hb : ratB b = true) : ∃ c, Si_CompareRatios a b = some ((c, ()), ()) ∧ decide (c > 0) = lessB b a := by
  rw [Si_CompareRatios_eq, Si_IsRatio_val, Si_IsRatio_val]
  simp only [Option.bind_some, ha, hb, Bool.not_true, cond_false]
  unfold lessB
  by_cases h1 : IntKind.i64.wrap (a.1 * b.2) < IntKind.i64.wrap (b.1 * a.2)
  · refine ⟨-1, by simp [h1], ?_⟩
    have : ¬ IntKind.i64.wrap (b.1 * a.2) < IntKind.i64.wrap (a.1 * b.2) := by omega
    simp [this]
  · by_cases h2 : IntKind.i64.wrap (b.1 * a.2) < IntKind.i64.wrap (a.1 * b.2)
    · exact ⟨1, by simp [h1, h2], by simp [h2]⟩
    · exact ⟨0, by simp [h1, h2], by simp [h2]⟩
theorem impl_step {v r : Int × Int} (hv : ratB v = true) (hr : ratB r = true) {R : Type} (k : Int × Int → Option R) :
    ((Si_absolute r.1).bind fun (y_1 : (Int × PUnit) × PUnit) => (Si_CompareRatios (y_1.fst.fst, r.2) v).bind fun (y_2 : (Int × PUnit) × PUnit) => bif decide (y_2.fst.fst > 0) then k (y_1.fst.fst, r.2) else k v) = k (gtB v r) := by
  obtain ⟨a1, a2, _⟩ := rat_bd hr
  rw [abs71 (by omega)]
  simp only [Option.bind_some]
  obtain ⟨c, h1, h2⟩ := cmp_gt (ratB_abs hr) hv
  unfold absR at h1
  rw [h1]
  simp only [Option.bind_some, h2]
  unfold gtB absR
  cases lessB v ((r.1.natAbs : Int), r.2) <;> rfl

theorem Li_SpeedOf_9_val (z v p q : Int × Int) (l : List Leg) (m i : Int) (hv : ratB v = true) (hp : ratB p = true) (hq : ratB q = true) : Li_SpeedOf_9 z l v m i [p, q] 2 0 = Li_SpeedOf_6 z l (gtB (gtB v p) q) m (IntKind.i64.wrap (i + 1)) := by
  have g0 : getI [p, q] 0 = some p := rfl
  have g1 : getI [p, q] 1 = some q := rfl
  have w0 : IntKind.i64.wrap (0 + 1) = 1 := by decide
  have w1 : IntKind.i64.wrap (1 + 1) = 2 := by decide
  rw [Li_SpeedOf_9_eq]
  simp only [show decide ((0 : Int) < 2) = true from rfl, cond_true, g0, Option.bind_some, w0]
  rw [impl_step hv hp (fun u => Li_SpeedOf_9 z l u m i [p, q] 2 1), Li_SpeedOf_9_eq]
  simp only [show decide ((1 : Int) < 2) = true from rfl, cond_true, g1, Option.bind_some, w1]
  rw [impl_step (gtB_rat hv hp) hq (fun u => Li_SpeedOf_9 z l u m i [p, q] 2 2), Li_SpeedOf_9_eq]
  simp only [show decide ((2 : Int) < 2) = false from rfl, cond_false]

/-- The legs, or none. -/
def legsB (x : List Stp) : Nat → Nat → List Leg → Option (List Leg)
  | 0, _, l => some l
  | n + 1, i, l => match x[i - 1]?, x[i]? with
    | some a, some b => bif legOk a b then legsB x n (i + 1) (l ++ [legOf a b]) else none
    | _, _ => none
def legsR : Option (List Leg) → Option ((List Leg × Bool × PUnit) × PUnit)
  | some v => some ((v, true, ()), ())
  | none => some (([], false, ()), ())
theorem L70_val (x : List Stp) (hl : x.length ≤ 6) : ∀ (n i : Nat) (l : List Leg), n + i = x.length → 1 ≤ i → l.length + 1 = i → Li_legsOf_8 x l (i : Int) = legsR (legsB x n i l)
  | 0, i, v, hn, h1, hv => by
    rw [Li_legsOf_8_eq]
    have : decide ((i : Int) < (x.length : Int)) = false := by simp; omega
    rw [this, cond_false]
    rfl
  | n + 1, i, v, hn, h1, hv => by
    rw [Li_legsOf_8_eq]
    have hi : i < x.length := by omega
    have : decide ((i : Int) < (x.length : Int)) = true := by simp; omega
    rw [this, cond_true, show IntKind.i64.wrap ((i : Int) - 1) = ((i - 1 : Nat) : Int) by rw [wrap_id] <;> omega, getI_ok (by omega), getI_ok hi]
    simp only [Option.bind_some, Si_legBetween_val, legsB, List.getElem?_eq_getElem hi, List.getElem?_eq_getElem (show i - 1 < x.length by omega)]
    cases hk : legOk x[i - 1] x[i] with
    | false => rfl
    | true =>
      simp only [Bool.not_true, cond_false, cond_true]
      have hd : decide ((v.length + 1) * 96 ≤ 140737488355328) = true := by simp; omega
      rw [hd, cond_true, show IntKind.i64.wrap ((i : Int) + 1) = ((i + 1 : Nat) : Int) by rw [wrap_id] <;> omega]
      exact L70_val x hl n (i + 1) _ (by omega) (by omega) (by simp; omega)

theorem legsB_len (x : List Stp) : ∀ (n i : Nat) (l r : List Leg), legsB x n i l = some r → r.length = l.length + n
  | 0, i, l, r, h => by
    simp only [legsB, Option.some.injEq] at h
    subst h; rfl
  | n + 1, i, l, r, h => by
    simp only [legsB] at h
    split at h
    · rename_i a b ha hb
      cases hk : legOk a b with
      | false => rw [hk] at h; cases h
      | true =>
        rw [hk] at h
        have := legsB_len x n (i + 1) _ r h
        simp at this
        omega
    · cases h

def spdL : List Leg → (Int × Int) → Int × Int
  | [], v => v
  | l :: ls, v => spdL ls (gtB (gtB v l.2.2.1.1) l.2.2.2.1)
def legsGood (l : List Leg) : Prop := ∀ g ∈ l, linOk g.2.2.1 = true ∧ linOk g.2.2.2 = true
theorem legsB_good (x : List Stp) : ∀ (n i : Nat) (l r : List Leg), legsGood l → legsB x n i l = some r → legsGood r
  | 0, i, l, r, hg, h => by
    simp only [legsB, Option.some.injEq] at h
    subst h; exact hg
  | n + 1, i, l, r, hg, h => by
    simp only [legsB] at h
    split at h
    · rename_i a b ha hb
      cases hk : legOk a b with
      | false => rw [hk] at h; cases h
      | true =>
        rw [hk] at h
        refine legsB_good x n (i + 1) _ r (fun g hg' => ?_) h
        rcases List.mem_append.1 hg' with hg' | hg'
        · exact hg g hg'
        · rw [List.mem_singleton.1 hg']
          simpa [legOk, legOf] using hk
    · cases h

theorem Li_SpeedOf_6_val (z : Int × Int) (l : List Leg) (hl : l.length ≤ 6) (hg : legsGood l) : ∀ (n i : Nat) (v : Int × Int), n + i = l.length → ratB v = true → Li_SpeedOf_6 z l v (l.length : Int) (i : Int) = some ((spdL (l.drop i) v, true, ()), ())
  | 0, i, v, hn, hv => by
    rw [Li_SpeedOf_6_eq]
    have : decide ((i : Int) < (l.length : Int)) = false := by simp; omega
    rw [this, cond_false, List.drop_eq_nil_of_le (by omega)]
    rfl
  | n + 1, i, v, hn, hv => by
    rw [Li_SpeedOf_6_eq]
    have hi : i < l.length := by omega
    have : decide ((i : Int) < (l.length : Int)) = true := by simp; omega
    have hgi := hg l[i] (List.getElem_mem hi)
    simp only [linOk, Bool.and_eq_true] at hgi
    rw [this, cond_true, getI_ok hi]
    simp only [Option.bind_some]
    rw [Li_SpeedOf_9_val _ _ _ _ _ _ _ hv hgi.1.1 hgi.2.1,
      show IntKind.i64.wrap ((i : Int) + 1) = ((i + 1 : Nat) : Int) by rw [wrap_id] <;> omega,
      Li_SpeedOf_6_val z l hl hg n (i + 1) _ (by omega) (gtB_rat (gtB_rat hv hgi.1.1) hgi.2.1), List.drop_eq_getElem_cons hi]
    rfl

/-! ### the order of ratios -/
theorem less_iff {a b : Int × Int} (ha : ratB a = true) (hb : ratB b = true) : lessB a b = decide (a.1 * b.2 < b.1 * a.2) := by
  obtain ⟨a1, a2, _⟩ := rat_bd ha
  obtain ⟨b1, b2, _⟩ := rat_bd hb
  unfold lessB
  rw [wrap_prod a1 b2, wrap_prod b1 a2]
theorem less_asym {a b : Int × Int} (ha : ratB a = true) (hb : ratB b = true) (h : lessB a b = true) : lessB b a = false := by
  rw [less_iff ha hb] at h
  rw [less_iff hb ha]
  simp only [decide_eq_true_eq, decide_eq_false_iff_not] at h ⊢
  omega
theorem less_irr (a : Int × Int) : lessB a a = false := by
  unfold lessB
  simp
theorem less_trans {a b c : Int × Int} (ha : ratB a = true) (hb : ratB b = true) (hc : ratB c = true) (h1 : lessB a b = true) (h2 : lessB b c = true) : lessB a c = true := by
  obtain ⟨_, _, pa⟩ := rat_bd ha
  obtain ⟨_, _, pb⟩ := rat_bd hb
  obtain ⟨_, _, pc⟩ := rat_bd hc
  rw [less_iff ha hb] at h1
  rw [less_iff hb hc] at h2
  rw [less_iff ha hc]
  simp only [decide_eq_true_eq] at h1 h2 ⊢
  have e1 : a.1 * b.2 * c.2 < b.1 * a.2 * c.2 := Int.mul_lt_mul_of_pos_right h1 (by omega)
  have e2 : b.1 * c.2 * a.2 < c.1 * b.2 * a.2 := Int.mul_lt_mul_of_pos_right h2 (by omega)
  have e3 : b.1 * a.2 * c.2 = b.1 * c.2 * a.2 := by rw [Int.mul_assoc, Int.mul_comm a.2, ← Int.mul_assoc]
  have e4 : a.1 * c.2 * b.2 < c.1 * a.2 * b.2 := by
    rw [Int.mul_assoc a.1, Int.mul_comm c.2, ← Int.mul_assoc, Int.mul_assoc c.1, Int.mul_comm a.2, ← Int.mul_assoc]
    omega
  exact Int.lt_of_mul_lt_mul_right e4 (by omega)
theorem rat_gcd {a : Int × Int} (ha : ratB a = true) : Nat.gcd a.1.natAbs a.2.natAbs = 1 := by
  have hb := rat_bd ha
  have e1 : numB a.1 = true := by simp only [numB, Bool.and_eq_true, decide_eq_true_eq]; omega
  have e2 : numB a.2 = true := by simp only [numB, Bool.and_eq_true, decide_eq_true_eq]; omega
  simp only [ratB, gcdB, e1, e2, Bool.and_eq_true, Bool.and_self, cond_true, beq_iff_eq] at ha
  omega
theorem less_tri {a b : Int × Int} (ha : ratB a = true) (hb : ratB b = true) (h1 : lessB a b = false) (h2 : lessB b a = false) : a = b := by
  obtain ⟨_, _, pa⟩ := rat_bd ha
  obtain ⟨_, _, pb⟩ := rat_bd hb
  rw [less_iff ha hb] at h1
  rw [less_iff hb ha] at h2
  simp only [decide_eq_false_iff_not] at h1 h2
  have he : a.1 * b.2 = b.1 * a.2 := by omega
  have hn : a.1.natAbs * b.2.natAbs = b.1.natAbs * a.2.natAbs := by rw [← Int.natAbs_mul, ← Int.natAbs_mul, he]
  have ca : Nat.Coprime a.2.natAbs a.1.natAbs := by rw [Nat.coprime_comm]; exact rat_gcd ha
  have cb : Nat.Coprime b.2.natAbs b.1.natAbs := by rw [Nat.coprime_comm]; exact rat_gcd hb
  have d1 : a.2.natAbs ∣ b.2.natAbs := ca.dvd_of_dvd_mul_left (by rw [hn]; exact Nat.dvd_mul_left _ _)
  have d2 : b.2.natAbs ∣ a.2.natAbs := cb.dvd_of_dvd_mul_left (by rw [← hn]; exact Nat.dvd_mul_left _ _)
  have e2 : a.2 = b.2 := by
    have := Nat.dvd_antisymm d1 d2
    omega
  have e1 : a.1 = b.1 := by
    rw [e2] at he
    exact Int.eq_of_mul_eq_mul_right (by omega) he
  exact Prod.ext e1 e2
theorem cmp_val {a b : Int × Int} (ha : ratB a = true) (hb : ratB b = true) : Si_CompareRatios a b = some (((bif lessB a b then -1 else bif lessB b a then 1 else 0 : Int), ()), ()) := by
  rw [Si_CompareRatios_eq, Si_IsRatio_val, Si_IsRatio_val]
  simp only [Option.bind_some, ha, hb, Bool.not_true, cond_false]
  unfold lessB
  by_cases h1 : IntKind.i64.wrap (a.1 * b.2) < IntKind.i64.wrap (b.1 * a.2)
  · simp [h1]
  · by_cases h2 : IntKind.i64.wrap (b.1 * a.2) < IntKind.i64.wrap (a.1 * b.2)
    · simp [h1, h2]
    · simp [h1, h2]

theorem trk_spec (x : List Stp) : ∀ (n i : Nat), trk x n i = true → ∀ j (hj : j < x.length), i ≤ j → j < i + n → ratB x[j].1 = true ∧ ratB x[j].2.1 = true ∧ ratB x[j].2.2 = true ∧ ∀ k (hk : k < x.length), j = k + 1 → lessB x[k].1 x[j].1 = true
  | 0, i, h, j, hj, h1, h2 => absurd h2 (by omega)
  | n + 1, i, h, j, hj, h1, h2 => by
    simp only [trk, Bool.and_eq_true] at h
    obtain ⟨h3, h4⟩ := h
    by_cases hij : j = i
    · subst hij
      rw [List.getElem?_eq_getElem hj] at h3
      simp only [Bool.and_eq_true] at h3
      obtain ⟨⟨⟨e1, e2⟩, e3⟩, e4⟩ := h3
      refine ⟨e1, e2, e3, fun k hk hjk => ?_⟩
      subst hjk
      simp only [List.getElem?_eq_getElem hk] at e4
      exact e4
    · exact trk_spec x n (i + 1) h4 j hj (by omega) (by omega)
theorem isTrk_spec {x : List Stp} (h : isTrk x = true) (j : Nat) (hj : j < x.length) : ratB x[j].1 = true ∧ ratB x[j].2.1 = true ∧ ratB x[j].2.2 = true ∧ ∀ k (hk : k < x.length), j = k + 1 → lessB x[k].1 x[j].1 = true := by
  simp only [isTrk, Bool.and_eq_true] at h
  exact trk_spec x x.length 0 h.1 j hj (by omega) (by omega)

/-! ### PositionAt -/
def valB (l : Lin) (t : Int × Int) : Int × Int := addB (mulB l.1 t) l.2
theorem Si_IsPoint_two (p q : Int × Int) : Si_IsPoint [p, q] 2 = some ((ratB p && ratB q, ()), ()) := by
  have g0 : getI [p, q] 0 = some p := rfl
  have g1 : getI [p, q] 1 = some q := rfl
  have w0 : IntKind.i64.wrap (0 + 1) = 1 := by decide
  have w1 : IntKind.i64.wrap (1 + 1) = 2 := by decide
  rw [Si_IsPoint_eq]
  simp only [List.length_cons, List.length_nil, show (((0 + 1 + 1 : Nat) : Int) != 2) = false from rfl, cond_false]
  rw [Li_IsPoint_4_eq]
  simp only [show decide ((0 : Int) < ((0 + 1 + 1 : Nat) : Int)) = true from rfl, cond_true, g0, Option.bind_some, Si_IsRatio_val, w0]
  cases ratB p
  · rfl
  simp only [Bool.not_true, cond_false, Bool.true_and]
  rw [Li_IsPoint_4_eq]
  simp only [show decide ((1 : Int) < ((0 + 1 + 1 : Nat) : Int)) = true from rfl, cond_true, g1, Option.bind_some, Si_IsRatio_val, w1]
  cases ratB q
  · rfl
  simp only [Bool.not_true, cond_false]
  rw [Li_IsPoint_4_eq]
  rfl

abbrev Pt := List (Int × Int)
def ptB (p s : Stp) (t : Int × Int) : Pt × Bool := bif legOk p s && (ratB (valB (xL p s) t) && ratB (valB (yL p s) t)) then ([valB (xL p s) t, valB (yL p s) t], true) else ([], false)
/-- The position at a time. -/
def posS (x : List Stp) (t : Int × Int) : Nat → Nat → Pt × Bool
  | 0, _ => ([], false)
  | n + 1, i => match x[i]? with
    | none => ([], false)
    | some s => bif s.1.1 == t.1 && s.1.2 == t.2 then ([s.2.1, s.2.2], true) else match i with
      | 0 => posS x t n 1
      | j + 1 => match x[j]? with
        | none => ([], false)
        | some p => bif lessB p.1 t && lessB t s.1 then ptB p s t else posS x t n (j + 2)
def ptR (r : Pt × Bool) : Option ((Pt × Bool × PUnit) × PUnit) := some ((r.1, r.2, ()), ())

theorem eqR {a b : Int × Int} : (a.1 == b.1 && a.2 == b.2) = decide (a = b) := by
  obtain ⟨a1, a2⟩ := a
  obtain ⟨b1, b2⟩ := b
  rw [Bool.eq_iff_iff]
  simp

theorem posS_none (x : List Stp) (t : Int × Int) (hx : isTrk x = true) (ht : ratB t = true) : ∀ (n j : Nat) (hj : j < x.length), n + (j + 1) = x.length → lessB t x[j].1 = true → posS x t n (j + 1) = ([], false)
  | 0, j, hj, hn, h => rfl
  | n + 1, j, hj, hn, h => by
    have hi : j + 1 < x.length := by omega
    have s1 := isTrk_spec hx (j + 1) hi
    have s0 := isTrk_spec hx j hj
    have hl := s1.2.2.2 j hj rfl
    have htn := less_trans ht s0.1 s1.1 h hl
    simp only [posS, List.getElem?_eq_getElem hi, List.getElem?_eq_getElem hj, eqR, less_asym ht s0.1 h, Bool.false_and, cond_false]
    have hne : decide (x[j + 1].1 = t) = false := by
      rw [decide_eq_false_iff_not]
      intro e
      rw [e, less_irr] at htn
      cases htn
    rw [hne, cond_false]
    exact posS_none x t hx ht n (j + 1) hi (by omega) htn

theorem L41_val (x : List Stp) (t : Int × Int) (hx : isTrk x = true) (ht : ratB t = true) : ∀ (n i : Nat), n + i = x.length → (∀ j (hj : j < x.length), i = j + 1 → lessB x[j].1 t = true) → Li_PositionAt_4 x t x (x.length : Int) (i : Int) = ptR (posS x t n i)
  | 0, i, hn, _ => by
    rw [Li_PositionAt_4_eq]
    have : decide ((i : Int) < (x.length : Int)) = false := by simp; omega
    rw [this, cond_false]
    rfl
  | n + 1, i, hn, hinv => by
    have hl := isTrk_len hx
    rw [Li_PositionAt_4_eq]
    have hi : i < x.length := by omega
    have : decide ((i : Int) < (x.length : Int)) = true := by simp; omega
    have s1 := isTrk_spec hx i hi
    rw [this, cond_true, getI_ok hi]
    simp only [Option.bind_some, cmp_val ht s1.1, posS, List.getElem?_eq_getElem hi, eqR]
    by_cases he : x[i].1 = t
    · simp only [he, less_irr, cond_false, decide_true, cond_true]
      rfl
    · simp only [he, decide_false, cond_false]
      cases h0 : lessB t x[i].1 with
      | true =>
        have c1 : ((-1 : Int) == 0) = false := rfl
        have c2 : decide ((-1 : Int) > 0) = false := rfl
        simp only [cond_true, c1, c2, cond_false]
        cases i with
        | zero =>
          simp only
          rw [posS_none x t hx ht n 0 hi (by omega) h0]
          rfl
        | succ j =>
          have c3 : (((j + 1 : Nat) : Int) == 0) = false := by
            rw [beq_eq_false_iff_ne]
            omega
          rw [c3, cond_false, show IntKind.i64.wrap (((j + 1 : Nat) : Int) - 1) = ((j : Nat) : Int) by rw [wrap_id] <;> omega, getI_ok (by omega)]
          simp only [Option.bind_some, Si_legBetween_val, List.getElem?_eq_getElem (show j < x.length by omega), hinv j (by omega) rfl, Bool.and_self, cond_true]
          unfold ptB
          cases hk : legOk x[j] x[j + 1] with
          | false => rfl
          | true =>
            simp only [Bool.not_true, cond_false, Si_MultiplyRatios_val, Si_AddRatios_val, Option.bind_some]
            change ((Si_IsPoint [valB (xL x[j] x[j + 1]) t, valB (yL x[j] x[j + 1]) t] 2).bind _) = _
            rw [Si_IsPoint_two]
            simp only [Option.bind_some]
            change (bif !(ratB (valB (xL x[j] x[j + 1]) t) && ratB (valB (yL x[j] x[j + 1]) t)) then _ else some (([valB (xL x[j] x[j + 1]) t, valB (yL x[j] x[j + 1]) t], true, ()), ())) = _
            cases (ratB (valB (xL x[j] x[j + 1]) t) && ratB (valB (yL x[j] x[j + 1]) t)) <;> rfl
      | false =>
        have h1 : lessB x[i].1 t = true := by
          cases h1 : lessB x[i].1 t with
          | true => rfl
          | false => exact absurd (less_tri s1.1 ht h1 h0) he
        have c1 : ((1 : Int) == 0) = false := rfl
        have c2 : decide ((1 : Int) > 0) = true := rfl
        simp only [h1, cond_true, cond_false, c1, c2]
        rw [show IntKind.i64.wrap ((i : Int) + 1) = ((i + 1 : Nat) : Int) by rw [wrap_id] <;> omega,
          L41_val x t hx ht n (i + 1) (by omega) (fun j hj e => by
            have : j = i := by omega
            subst this
            exact h1)]
        cases i with
        | zero => rfl
        | succ j =>
          simp only [List.getElem?_eq_getElem (show j < x.length by omega), Bool.and_false, cond_false]

def posB (x : List Stp) (t : Int × Int) : Pt × Bool := bif isTrk x && ratB t then posS x t x.length 0 else ([], false)
theorem Si_PositionAt_val (x : List Stp) (t : Int × Int) (hl : x.length ≤ 1048576) : Si_PositionAt x t = ptR (posB x t) := by
  rw [Si_PositionAt_eq, Si_IsTrack_val x hl, Si_IsRatio_val]
  unfold posB
  simp only [Option.bind_some]
  cases hx : isTrk x with
  | false => rfl
  | true =>
    cases ht : ratB t with
    | false => rfl
    | true => exact L41_val x t hx ht x.length 0 (by omega) (fun j _ e => by omega)
/-! ### rows of ratios: the same, marked, held -/
/-! ### CutTrack -/
/-! ### what ratios are worth -/
abbrev Qt := _root_.Rat
def qv (r : Int × Int) : Qt := (r.1 : Qt) / (r.2 : Qt)
theorem qne {n : Int} (h : n ≠ 0) : (n : Qt) ≠ 0 := by simpa using h
theorem rat_pos {r : Int × Int} (h : ratB r = true) : (0 : Qt) < (r.2 : Qt) := by
  have := (rat_bd h).2.2
  have h2 : ((0 : Int) : Qt) < (r.2 : Qt) := Rat.intCast_lt_intCast.2 (by omega)
  simpa using h2
theorem rat_den {r : Int × Int} (h : ratB r = true) : (r.2 : Qt) ≠ 0 := qne (by have := (rat_bd h).2.2; omega)
theorem ratB_00 : ratB (0, 0) = false := by decide
theorem low_qv {n d : Int} (hd : d ≠ 0) (h : ratB (low n d) = true) : qv (low n d) = (n : Qt) / (d : Qt) := by
  unfold low at h ⊢
  cases hc : ratB (n.tdiv (Nat.gcd n.natAbs d.natAbs : Nat), d.tdiv (Nat.gcd n.natAbs d.natAbs : Nat)) with
  | false => rw [hc, cond_false, ratB_00] at h; cases h
  | true =>
    rw [cond_true]
    generalize hg : Nat.gcd n.natAbs d.natAbs = g at hc ⊢
    have hgp : 0 < g := by rw [← hg]; exact Nat.gcd_pos_of_pos_right _ (by omega)
    have h1 : ((g : Nat) : Int) ∣ n := by rw [← hg]; exact Int.ofNat_dvd_left.2 (Nat.gcd_dvd_left _ _)
    have h2 : ((g : Nat) : Int) ∣ d := by rw [← hg]; exact Int.ofNat_dvd_left.2 (Nat.gcd_dvd_right _ _)
    have e1 : n.tdiv g * g = n := Int.tdiv_mul_cancel h1
    have e2 : d.tdiv g * g = d := Int.tdiv_mul_cancel h2
    unfold qv
    dsimp only
    have c1 : (n : Qt) = ((n.tdiv g : Int) : Qt) * ((g : Int) : Qt) := by rw [← Rat.intCast_mul, e1]
    have c2 : (d : Qt) = ((d.tdiv g : Int) : Qt) * ((g : Int) : Qt) := by rw [← Rat.intCast_mul, e2]
    have c3 : ((g : Int) : Qt) ≠ 0 := qne (by omega)
    have c4 : ((d.tdiv g : Int) : Qt) ≠ 0 := qne (fun e => by rw [e] at e2; omega)
    rw [c1, c2]
    grind
theorem red_qv {n d : Int} (hd : d ≠ 0) (h : ratB (redB n d) = true) : qv (redB n d) = (n : Qt) / (d : Qt) := by
  have h0 : (d == 0) = false := by simpa using hd
  unfold redB at h ⊢
  rw [h0, cond_false] at h ⊢
  cases hc : decide (d < 0) with
  | true =>
    rw [hc, cond_true] at h
    rw [cond_true, low_qv (by omega) h]
    have := qne hd
    rw [Rat.intCast_neg, Rat.intCast_neg]
    grind
  | false =>
    rw [hc, cond_false] at h
    rw [cond_false, low_qv hd h]
theorem qv_inj {a b : Int × Int} (ha : ratB a = true) (hb : ratB b = true) (h : qv a = qv b) : a = b := by
  have pa := (rat_bd ha).2.2
  have pb := (rat_bd hb).2.2
  have da := rat_den ha
  have db := rat_den hb
  unfold qv at h
  have hq : (a.1 : Qt) * (b.2 : Qt) = (b.1 : Qt) * (a.2 : Qt) := by grind
  rw [← Rat.intCast_mul, ← Rat.intCast_mul, Rat.intCast_inj] at hq
  have hn : a.1.natAbs * b.2.natAbs = b.1.natAbs * a.2.natAbs := by rw [← Int.natAbs_mul, ← Int.natAbs_mul, hq]
  have ca : Nat.Coprime a.2.natAbs a.1.natAbs := by rw [Nat.coprime_comm]; exact rat_gcd ha
  have cb : Nat.Coprime b.2.natAbs b.1.natAbs := by rw [Nat.coprime_comm]; exact rat_gcd hb
  have d1 : a.2.natAbs ∣ b.2.natAbs := ca.dvd_of_dvd_mul_left (by rw [hn]; exact Nat.dvd_mul_left _ _)
  have d2 : b.2.natAbs ∣ a.2.natAbs := cb.dvd_of_dvd_mul_left (by rw [← hn]; exact Nat.dvd_mul_left _ _)
  have e2 : a.2 = b.2 := by
    have := Nat.dvd_antisymm d1 d2
    omega
  have e1 : a.1 = b.1 := by
    rw [e2] at hq
    exact Int.eq_of_mul_eq_mul_right (by omega) hq
  exact Prod.ext e1 e2
theorem low_of {c : Int × Int} (hc : ratB c = true) {k : Int} (hk : 0 < k) : low (c.1 * k) (c.2 * k) = c := by
  have hg : Nat.gcd (c.1 * k).natAbs (c.2 * k).natAbs = k.natAbs := by
    rw [Int.natAbs_mul, Int.natAbs_mul, Nat.gcd_mul_right, rat_gcd hc, Nat.one_mul]
  unfold low
  have e : ((k.natAbs : Nat) : Int) = k := by omega
  rw [hg, e, Int.mul_tdiv_cancel _ (by omega), Int.mul_tdiv_cancel _ (by omega)]
  show (bif ratB c then c else (0, 0)) = c
  rw [hc]; rfl
theorem red_of {c : Int × Int} (hc : ratB c = true) {n d : Int} (hd : d ≠ 0) (h : qv c = (n : Qt) / (d : Qt)) : redB n d = c := by
  have pc := (rat_bd hc).2.2
  have dc := rat_den hc
  have dd := qne hd
  unfold qv at h
  have hq : (n : Qt) * (c.2 : Qt) = (c.1 : Qt) * (d : Qt) := by grind
  rw [← Rat.intCast_mul, ← Rat.intCast_mul, Rat.intCast_inj] at hq
  -- c.2 divides d
  have hn : n.natAbs * c.2.natAbs = c.1.natAbs * d.natAbs := by rw [← Int.natAbs_mul, ← Int.natAbs_mul, hq]
  have cc : Nat.Coprime c.2.natAbs c.1.natAbs := by rw [Nat.coprime_comm]; exact rat_gcd hc
  have d1 : c.2.natAbs ∣ d.natAbs := cc.dvd_of_dvd_mul_left (by rw [← hn]; exact Nat.dvd_mul_left _ _)
  obtain ⟨k, hk⟩ : c.2 ∣ d := Int.natAbs_dvd_natAbs.1 d1
  have hk0 : k ≠ 0 := by rintro rfl; simp at hk; exact hd hk
  have hn2 : n = c.1 * k := by
    rw [hk, ← Int.mul_assoc, Int.mul_comm c.1 c.2, Int.mul_assoc, Int.mul_comm n] at hq
    exact Int.eq_of_mul_eq_mul_left (by omega) hq
  have h0 : (d == 0) = false := by simpa using hd
  unfold redB
  rw [h0, cond_false]
  by_cases hneg : d < 0
  · have hkn : k < 0 := by
      apply Classical.byContradiction
      intro hc2
      have : 0 ≤ c.2 * k := Int.mul_nonneg (by omega) (by omega)
      omega
    rw [decide_eq_true hneg, cond_true, hn2, hk, ← Int.mul_neg, ← Int.mul_neg]
    exact low_of hc (by omega)
  · have hkp : 0 < k := by
      apply Classical.byContradiction
      intro hc2
      have hk2 : k < 0 := by omega
      have : c.2 * k < 0 := Int.mul_neg_of_pos_of_neg (by omega) hk2
      omega
    rw [decide_eq_false hneg, cond_false, hn2, hk]
    exact low_of hc hkp
theorem den_mul {a b : Int × Int} (ha : ratB a = true) (hb : ratB b = true) : a.2 * b.2 ≠ 0 := by
  have h1 := (rat_bd ha).2.2
  have h2 := (rat_bd hb).2.2
  exact Int.mul_ne_zero (by omega) (by omega)
theorem both {a b : Int × Int} {c : Int × Int} (h : ratB (bif ratB a && ratB b then c else (0, 0)) = true) : ratB a = true ∧ ratB b = true ∧ ratB c = true := by
  cases ha : ratB a
  · rw [ha, Bool.false_and, cond_false, ratB_00] at h; cases h
  cases hb : ratB b
  · rw [ha, hb, Bool.and_false, cond_false, ratB_00] at h; cases h
  rw [ha, hb] at h
  exact ⟨rfl, rfl, h⟩
theorem add_ok {a b : Int × Int} (h : ratB (addB a b) = true) : ratB a = true ∧ ratB b = true ∧ qv (addB a b) = qv a + qv b := by
  obtain ⟨ha, hb, h2⟩ := both h
  have da := rat_den ha
  have db := rat_den hb
  refine ⟨ha, hb, ?_⟩
  unfold addB
  rw [ha, hb, Bool.and_self, cond_true, red_qv (den_mul ha hb) h2]
  unfold qv
  rw [Rat.intCast_add, Rat.intCast_mul, Rat.intCast_mul, Rat.intCast_mul]
  grind
theorem mul_ok {a b : Int × Int} (h : ratB (mulB a b) = true) : ratB a = true ∧ ratB b = true ∧ qv (mulB a b) = qv a * qv b := by
  obtain ⟨ha, hb, h2⟩ := both h
  have da := rat_den ha
  have db := rat_den hb
  refine ⟨ha, hb, ?_⟩
  unfold mulB
  rw [ha, hb, Bool.and_self, cond_true, red_qv (den_mul ha hb) h2]
  unfold qv
  rw [Rat.intCast_mul, Rat.intCast_mul]
  grind
theorem neg_ok {a : Int × Int} (h : ratB (negB a) = true) : ratB a = true ∧ qv (negB a) = - qv a := by
  unfold negB at h ⊢
  cases ha : ratB a
  · rw [ha, cond_false, ratB_00] at h; cases h
  refine ⟨rfl, ?_⟩
  rw [cond_true]
  have da := rat_den ha
  unfold qv
  dsimp only
  rw [Rat.intCast_neg]
  grind
theorem div_ok {a b : Int × Int} (h : ratB (divB a b) = true) : ratB a = true ∧ ratB b = true ∧ qv b ≠ 0 ∧ qv (divB a b) = qv a / qv b := by
  obtain ⟨ha, hb, h2⟩ := both h
  have da := rat_den ha
  have db := rat_den hb
  cases h0 : (b.1 == 0)
  · rw [h0, cond_false] at h2
    have hb1 : b.1 ≠ 0 := by simpa using h0
    have nb := qne hb1
    have hd : a.2 * b.1 ≠ 0 := Int.mul_ne_zero (by have := (rat_bd ha).2.2; omega) hb1
    refine ⟨ha, hb, ?_, ?_⟩
    · unfold qv; grind
    · unfold divB
      rw [ha, hb, Bool.and_self, cond_true, h0, cond_false, red_qv hd h2]
      unfold qv
      rw [Rat.intCast_mul, Rat.intCast_mul]
      grind
  · rw [h0, cond_true, ratB_00] at h2; cases h2
theorem add_of {a b c : Int × Int} (ha : ratB a = true) (hb : ratB b = true) (hc : ratB c = true) (h : qv c = qv a + qv b) : addB a b = c := by
  have da := rat_den ha
  have db := rat_den hb
  unfold addB
  rw [ha, hb, Bool.and_self, cond_true]
  refine red_of hc (den_mul ha hb) ?_
  rw [h]
  unfold qv
  rw [Rat.intCast_add, Rat.intCast_mul, Rat.intCast_mul, Rat.intCast_mul]
  grind
theorem less_qv {a b : Int × Int} (ha : ratB a = true) (hb : ratB b = true) : lessB a b = decide (qv a < qv b) := by
  rw [less_iff ha hb, decide_eq_decide]
  have pa := rat_pos ha
  have pb := rat_pos hb
  have da := rat_den ha
  have db := rat_den hb
  unfold qv
  rw [Rat.div_lt_iff pa, show (b.1 : Qt) / (b.2 : Qt) * (a.2 : Qt) = ((b.1 : Qt) * (a.2 : Qt)) / (b.2 : Qt) by grind, Rat.lt_div_iff pb, ← Rat.intCast_mul, ← Rat.intCast_mul, Rat.intCast_lt_intCast]

/-! ### lines, by what they are worth -/
structure LinV (t a u b : Int × Int) : Prop where
  rt : ratB t = true
  ra : ratB a = true
  ru : ratB u = true
  rb : ratB b = true
  ne : qv u - qv t ≠ 0
  r1 : ratB (linB t a u b).1 = true
  r2 : ratB (linB t a u b).2 = true
  v1 : qv (linB t a u b).1 = (qv b - qv a) / (qv u - qv t)
  v2 : qv (linB t a u b).2 = qv a - (qv b - qv a) / (qv u - qv t) * qv t
theorem lin_ok {t a u b : Int × Int} (h : linOk (linB t a u b) = true) : LinV t a u b := by
  unfold linOk at h
  rw [Bool.and_eq_true] at h
  obtain ⟨h1, h2⟩ := h
  have e1 := div_ok h1
  obtain ⟨e2, e3, e4, e5⟩ := e1
  obtain ⟨rb, hna, e6⟩ := add_ok e2
  obtain ⟨ra, e7⟩ := neg_ok hna
  obtain ⟨ru, hnt, e8⟩ := add_ok e3
  obtain ⟨rt, e9⟩ := neg_ok hnt
  have e10 := add_ok h2
  obtain ⟨_, hn2, e11⟩ := e10
  obtain ⟨hm, e12⟩ := neg_ok hn2
  obtain ⟨_, _, e13⟩ := mul_ok hm
  have ed : qv (addB u (negB t)) = qv u - qv t := by rw [e8, e9]; grind
  have en : qv (addB b (negB a)) = qv b - qv a := by rw [e6, e7]; grind
  have v1 : qv (linB t a u b).1 = (qv b - qv a) / (qv u - qv t) := by
    show qv (divB _ _) = _
    rw [e5, ed, en]
  refine ⟨rt, ra, ru, rb, by rw [← ed]; exact e4, h1, h2, v1, ?_⟩
  show qv (addB a _) = _
  rw [e11, e12, e13]
  have : qv (divB (addB b (negB a)) (addB u (negB t))) = (qv b - qv a) / (qv u - qv t) := v1
  rw [this]
  grind
theorem val_ok {l : Lin} {t : Int × Int} (h : ratB (valB l t) = true) : ratB t = true ∧ qv (valB l t) = qv l.1 * qv t + qv l.2 := by
  obtain ⟨h1, _, h2⟩ := add_ok h
  obtain ⟨_, h3, h4⟩ := mul_ok h1
  refine ⟨h3, ?_⟩
  show qv (addB _ _) = _
  rw [h2, h4]
theorem eqR2 {a b c : Int × Int} (ha : ratB a = true) (hb : ratB b = true) (h1 : ratB (addB a c) = true) (h2 : ratB (addB b c) = true) : decide (addB a c = addB b c) = decide (a = b) := by
  rw [decide_eq_decide]
  constructor
  · intro h
    have e1 := (add_ok h1).2.2
    have e2 := (add_ok h2).2.2
    refine qv_inj ha hb ?_
    rw [h] at e1
    grind
  · intro h; rw [h]
theorem less_shift {a b c : Int × Int} (h1 : ratB (addB a c) = true) (h2 : ratB (addB b c) = true) : lessB (addB a c) (addB b c) = lessB a b := by
  obtain ⟨ra, _, e1⟩ := add_ok h1
  obtain ⟨rb, _, e2⟩ := add_ok h2
  rw [less_qv h1 h2, less_qv ra rb, e1, e2, decide_eq_decide]
  grind

/-! ### MoveTrack, in values -/
def moveB (x : List Stp) (a b c : Int × Int) : List Stp × Bool := bif isTrk x then mvEnd (x.map (mvS a b c)) else ([], false)
theorem Si_MoveTrack_val (x : List Stp) (a b c : Int × Int) (hl : x.length ≤ 1048576) : Si_MoveTrack x a b c = some (((moveB x a b c).1, (moveB x a b c).2, ()), ()) := by
  rw [Si_MoveTrack_eq, Si_IsTrack_val x hl]
  unfold moveB
  simp only [Option.bind_some]
  cases hx : isTrk x with
  | false => rfl
  | true =>
    have hn := isTrk_len hx
    simp only [Bool.not_true, cond_false, cond_true]
    have := L24_val x a b c hn.2 x.length 0 [] (by omega) rfl
    simpa using this
theorem trk_nil : isTrk [] = false := rfl
theorem Ss_MoveTrack_val (x : List Stp) (a b c : Int × Int) (hl : x.length ≤ 1048576) : Ss_MoveTrack x a b c = some (((moveB x a b c).1, (moveB x a b c).2, ()), ()) := by
  rw [Ss_MoveTrack_eq]
  unfold moveB
  cases hx : isTrk x with
  | false =>
    rw [Ls_MoveTrack_3_eq]
    simp only [Ss_IsTrack_val x hl, Ss_IsTrack_val [] (by simp), Option.bind_some, hx, trk_nil, cond_false, Bool.not_false, cond_true]
    cases decide ((0 : Int) < (x.length : Int)) <;> rfl
  | true =>
    have := L22_val x a b c hx x.length 0 [] (by omega) rfl
    simpa using this

/-! ### SpeedOf, in values -/
def speedB (x : List Stp) : (Int × Int) × Bool := bif isTrk x then (bif (x.length : Int) == 1 then ((0, 1), true) else match legsB x (x.length - 1) 1 [] with
  | none => ((0, 0), false)
  | some r => (spdL r (0, 1), true)) else ((0, 0), false)
theorem Si_SpeedOf_val (x : List Stp) (hl : x.length ≤ 1048576) : Si_SpeedOf x = some (((speedB x).1, (speedB x).2, ()), ()) := by
  rw [Si_SpeedOf_eq, Si_legsOf_eq, Si_IsTrack_val x hl]
  unfold speedB
  simp only [Option.bind_some]
  cases hx : isTrk x with
  | false => rfl
  | true =>
    have hn := isTrk_len hx
    simp only [Bool.not_true, cond_false, cond_true]
    have k2 : Li_legsOf_8 x [] 1 = legsR (legsB x (x.length - 1) 1 []) := L70_val x hn.2 (x.length - 1) 1 [] (by omega) (by omega) rfl
    by_cases h1 : x.length = 1
    · have e1 : (((x.length : Nat) : Int) == 1) = true := by rw [h1]; rfl
      have g : getI x 0 = some (x[0]'(by omega)) := getI_ok (i := 0) (by omega)
      rw [e1, cond_true, g]
      simp only [Option.bind_some, Bool.not_true, cond_false]
      have hz : ratB ((0 : Int), (1 : Int)) = true := ratB_zero
      have hgt : gtB (0, 1) (0, 1) = (0, 1) := by decide
      have g0 : ∀ g : Leg, getI [g] 0 = some g := fun _ => rfl
      have hw : IntKind.i64.wrap ((0 : Int) + 1) = 1 := by decide
      rw [Li_SpeedOf_6_eq]
      simp only [List.length_singleton, show decide ((0 : Int) < ((1 : Nat) : Int)) = true from rfl, cond_true, g0, Option.bind_some]
      refine Eq.trans (Li_SpeedOf_9_val (0, 0) (0, 1) (0, 1) (0, 1) _ _ _ hz hz hz) ?_
      rw [hgt, hgt, hw, Li_SpeedOf_6_eq]
      rfl
    · have e1 : (((x.length : Nat) : Int) == 1) = false := by
        rw [beq_eq_false_iff_ne]
        omega
      rw [e1, cond_false, k2]
      cases hL : legsB x (x.length - 1) 1 [] with
      | none => rfl
      | some r =>
        have hlen := legsB_len x _ _ _ _ hL
        have hgood := legsB_good x _ _ _ _ (fun g hg => by cases hg) hL
        simp only [legsR, Option.bind_some, Bool.not_true, cond_false]
        exact Li_SpeedOf_6_val (0, 0) r (by simp at hlen; omega) hgood r.length 0 (0, 1) (by omega) ratB_zero

/-! ### what is moved -/
section
theorem mv_get {x : List Stp} {t a b : Int × Int} {i : Nat} (hi : i < x.length) : (x.map (mvS t a b))[i]? = some (mvS t a b x[i]) := by simp [hi]
theorem lin_mv {t a u b s c : Int × Int} (h : linOk (linB t a u b) = true) (h' : linOk (linB (addB t s) (addB a c) (addB u s) (addB b c)) = true) :
    (linB t a u b).1 = (linB (addB t s) (addB a c) (addB u s) (addB b c)).1 ∧
    ∀ p, ratB (addB p s) = true → ratB (valB (linB t a u b) p) = true → ratB (valB (linB (addB t s) (addB a c) (addB u s) (addB b c)) (addB p s)) = true →
      addB (valB (linB t a u b) p) c = valB (linB (addB t s) (addB a c) (addB u s) (addB b c)) (addB p s) := by
  have h1 := lin_ok h
  have h2 := lin_ok h'
  have et := (add_ok h2.rt).2.2
  have ea := (add_ok h2.ra).2.2
  have eu := (add_ok h2.ru).2.2
  have eb := (add_ok h2.rb).2.2
  have rc := (add_ok h2.ra).2.1
  have n1 := h1.ne
  have n2 := h2.ne
  have w1 := h2.v1
  have w2 := h2.v2
  have x1 := h1.v1
  have x2 := h1.v2
  rw [et, eu] at n2
  rw [et, ea, eu, eb] at w1 w2
  have hr : qv (linB t a u b).1 = qv (linB (addB t s) (addB a c) (addB u s) (addB b c)).1 := by
    rw [x1, w1]; grind
  refine ⟨qv_inj h1.r1 h2.r1 hr, fun p hp k1 k2 => ?_⟩
  obtain ⟨_, _, ep⟩ := add_ok hp
  obtain ⟨_, v1⟩ := val_ok k1
  obtain ⟨_, v2⟩ := val_ok k2
  refine add_of k1 rc k2 ?_
  rw [v1, v2, ep, x1, x2, w1, w2]
  grind
theorem pos_mv {x : List Stp} {t a b p : Int × Int} (hx : isTrk x = true) (hm : isTrk (x.map (mvS t a b)) = true) (hp : ratB (addB p t) = true) : ∀ (n i : Nat), n + i = x.length →
    (posS x p n i).2 = true → (posS (x.map (mvS t a b)) (addB p t) n i).2 = true →
    ∃ u v, (posS x p n i).1 = [u, v] ∧ (posS (x.map (mvS t a b)) (addB p t) n i).1 = [addB u a, addB v b]
  | 0, i, hn, h, _ => by cases h
  | n + 1, i, hn, h, h' => by
    have hi : i < x.length := by omega
    have hpp := (add_ok hp).1
    have si := isTrk_spec hx i hi
    have mi := isTrk_spec hm i (by simpa using hi)
    simp only [List.getElem_map] at mi
    have hst : ratB (addB x[i].1 t) = true := mi.1
    have e1 : (x[i].1.1 == p.1 && x[i].1.2 == p.2) = decide (x[i].1 = p) := eqR
    have e2 : ((mvS t a b x[i]).1.1 == (addB p t).1 && (mvS t a b x[i]).1.2 == (addB p t).2) = decide (x[i].1 = p) := by
      rw [eqR]
      exact eqR2 si.1 hpp hst hp
    simp only [posS, List.getElem?_eq_getElem hi, mv_get hi, e1, e2] at h h' ⊢
    cases hd : decide (x[i].1 = p) with
    | true =>
      simp only [hd, cond_true]
      exact ⟨_, _, rfl, rfl⟩
    | false =>
      simp only [hd, cond_false] at h h' ⊢
      cases i with
      | zero => exact pos_mv hx hm hp n 1 (by omega) h h'
      | succ j =>
        have hj : j < x.length := by omega
        have sj := isTrk_spec hx j hj
        have mj := isTrk_spec hm j (by simpa using hj)
        simp only [List.getElem_map] at mj
        have hsj : ratB (addB x[j].1 t) = true := mj.1
        have l1 : lessB (mvS t a b x[j]).1 (addB p t) = lessB x[j].1 p := less_shift hsj hp
        have l2 : lessB (addB p t) (mvS t a b x[j + 1]).1 = lessB p x[j + 1].1 := less_shift hp hst
        simp only [List.getElem?_eq_getElem hj, mv_get hj, l1, l2] at h h' ⊢
        cases hb : (lessB x[j].1 p && lessB p x[j + 1].1) with
        | false =>
          simp only [hb, cond_false] at h h' ⊢
          exact pos_mv hx hm hp n (j + 2) (by omega) h h'
        | true =>
          simp only [hb, cond_true] at h h' ⊢
          unfold ptB at h h' ⊢
          cases hk : (legOk x[j] x[j + 1] && (ratB (valB (xL x[j] x[j + 1]) p) && ratB (valB (yL x[j] x[j + 1]) p))) with
          | false => rw [hk] at h; cases h
          | true =>
            cases hk' : (legOk (mvS t a b x[j]) (mvS t a b x[j + 1]) && (ratB (valB (xL (mvS t a b x[j]) (mvS t a b x[j + 1])) (addB p t)) && ratB (valB (yL (mvS t a b x[j]) (mvS t a b x[j + 1])) (addB p t)))) with
            | false => rw [hk'] at h'; cases h'
            | true =>
              simp only [cond_true]
              simp only [legOk, Bool.and_eq_true] at hk hk'
              obtain ⟨⟨a1, a2⟩, a3, a4⟩ := hk
              obtain ⟨⟨b1, b2⟩, b3, b4⟩ := hk'
              refine ⟨_, _, rfl, ?_⟩
              have c1 := (lin_mv (s := t) (c := a) a1 b1).2 p hp a3 b3
              have c2 := (lin_mv (s := t) (c := b) a2 b2).2 p hp a4 b4
              unfold xL yL mvS at *
              rw [← c1, ← c2]
def rises (l : List Leg) : List ((Int × Int) × Int × Int) := l.map fun g => (g.2.2.1.1, g.2.2.2.1)
theorem spdL_rises : ∀ (l m : List Leg) (v : Int × Int), rises l = rises m → spdL l v = spdL m v
  | [], [], v, _ => rfl
  | [], _ :: _, v, h => by cases h
  | _ :: _, [], v, h => by cases h
  | g :: l, g' :: m, v, h => by
    simp only [rises, List.map_cons, List.cons.injEq, Prod.mk.injEq] at h
    obtain ⟨⟨h1, h2⟩, h3⟩ := h
    simp only [spdL]
    rw [h1, h2]
    exact spdL_rises l m _ h3
theorem legs_mv {x : List Stp} {t a b : Int × Int} : ∀ (n i : Nat) (l l' r r' : List Leg), rises l = rises l' → legsB x n i l = some r → legsB (x.map (mvS t a b)) n i l' = some r' → rises r = rises r'
  | 0, i, l, l', r, r', h, h1, h2 => by
    simp only [legsB, Option.some.injEq] at h1 h2
    rw [← h1, ← h2]; exact h
  | n + 1, i, l, l', r, r', h, h1, h2 => by
    simp only [legsB, List.getElem?_map] at h1 h2
    cases ha : x[i - 1]? with
    | none => rw [ha] at h1; cases h1
    | some u =>
      cases hb : x[i]? with
      | none => rw [ha, hb] at h1; cases h1
      | some w =>
        rw [ha, hb] at h1 h2
        simp only [Option.map_some] at h1 h2
        cases hk : legOk u w with
        | false => rw [hk] at h1; cases h1
        | true =>
          cases hk' : legOk (mvS t a b u) (mvS t a b w) with
          | false => rw [hk'] at h2; cases h2
          | true =>
            rw [hk] at h1
            rw [hk'] at h2
            refine legs_mv n (i + 1) _ _ r r' ?_ h1 h2
            simp only [legOk, Bool.and_eq_true] at hk hk'
            have c1 := (lin_mv (s := t) (c := a) hk.1 hk'.1).1
            have c2 := (lin_mv (s := t) (c := b) hk.2 hk'.2).1
            simp only [rises, List.map_append, List.map_cons, List.map_nil, legOf] at h ⊢
            rw [h]
            unfold xL yL mvS
            rw [c1, c2]
theorem speed_mv {x : List Stp} {t a b : Int × Int} (hx : isTrk x = true) (hm : isTrk (x.map (mvS t a b)) = true) (h1 : (speedB x).2 = true) (h2 : (speedB (x.map (mvS t a b))).2 = true) : (speedB x).1 = (speedB (x.map (mvS t a b))).1 := by
  unfold speedB at h1 h2 ⊢
  simp only [hx, hm, cond_true, List.length_map] at h1 h2 ⊢
  cases h0 : ((x.length : Int) == 1) with
  | true => rfl
  | false =>
    simp only [h0, cond_false] at h1 h2 ⊢
    cases e1 : legsB x (x.length - 1) 1 [] with
    | none => rw [e1] at h1; cases h1
    | some r =>
      cases e2 : legsB (x.map (mvS t a b)) (x.length - 1) 1 [] with
      | none => rw [e2] at h2; cases h2
      | some r' =>
        exact spdL_rises _ _ _ (legs_mv _ _ [] [] r r' rfl e1 e2)
end

/-! ### draws -/
abbrev Crs := List Int × Int × Int
def CurK (c : Crs) : Prop := c.1.length ≤ 1048576 ∧ 0 ≤ c.2.1 ∧ c.2.1 ≤ (c.1.length : Int)
theorem and255 (X : BitVec IntKind.i64.bits) : 0 ≤ IntKind.i64.wrap (((X &&& BitVec.ofInt IntKind.i64.bits 255).toNat : Nat) : Int) ∧ IntKind.i64.wrap (((X &&& BitVec.ofInt IntKind.i64.bits 255).toNat : Nat) : Int) ≤ 255 := by
  have h : (X &&& BitVec.ofInt IntKind.i64.bits 255).toNat ≤ 255 := by
    rw [BitVec.toNat_and]
    exact Nat.le_trans Nat.and_le_right (by decide)
  rw [wrap_id (by omega) (by omega)]
  omega
theorem byte_ok {c : Crs} (hc : CurK c) : ∃ b c', Ss_l1Byte c = some ((b, ()), c', ()) ∧ 0 ≤ b ∧ b ≤ 255 ∧ CurK c' := by
  obtain ⟨h1, h2, h3⟩ := hc
  rw [Ss_l1Byte_eq]
  by_cases hlt : c.2.1 < (c.1.length : Int)
  · have g : getI c.1 c.2.1 = some (c.1[c.2.1.toNat]'(by omega)) := by
      have := getI_ok (xs := c.1) (i := c.2.1.toNat) (by omega)
      rwa [show ((c.2.1.toNat : Nat) : Int) = c.2.1 by omega] at this
    rw [decide_eq_true hlt, cond_true, g, wrap_id (x := c.2.1 + 1) (by omega) (by omega)]
    exact ⟨_, _, rfl, (and255 _).1, (and255 _).2, h1, by show 0 ≤ c.2.1 + 1; omega, by show c.2.1 + 1 ≤ (c.1.length : Int); omega⟩
  · rw [decide_eq_false hlt, cond_false]
    exact ⟨_, _, rfl, (and255 _).1, (and255 _).2, h1, h2, h3⟩
theorem below_ok {c : Crs} (hc : CurK c) (n : Int) : ∃ r c', Ss_l1Below c n = some ((r, ()), c', ()) ∧ 0 ≤ r ∧ (0 < n → r < n) ∧ CurK c' := by
  rw [Ss_l1Below_eq]
  by_cases h0 : n ≤ 0
  · rw [decide_eq_true h0, cond_true]
    exact ⟨0, c, rfl, Int.le_refl _, fun h => by omega, hc⟩
  · have hn : (n != 0) = true := by rw [bne_iff_ne]; omega
    rw [decide_eq_false h0, cond_false, hn]
    obtain ⟨b1, c1, e1, l1, u1, k1⟩ := byte_ok hc
    by_cases h1 : n ≤ 256
    · rw [decide_eq_true h1, cond_true, e1]
      exact ⟨_, _, rfl, Int.tmod_nonneg _ l1, fun h => Int.tmod_lt_of_pos _ h, k1⟩
    · obtain ⟨b2, c2, e2, l2, u2, k2⟩ := byte_ok k1
      obtain ⟨b3, c3, e3, l3, u3, k3⟩ := byte_ok k2
      obtain ⟨b4, c4, e4, l4, u4, k4⟩ := byte_ok k3
      rw [decide_eq_false h1, cond_false]
      simp only [e1, e2, e3, e4, Option.bind_some, cond_true]
      rw [wrap_id (x := b1 * 16777216) (by omega) (by omega), wrap_id (x := b2 * 65536) (by omega) (by omega), wrap_id (x := b1 * 16777216 + b2 * 65536) (by omega) (by omega), wrap_id (x := b3 * 256) (by omega) (by omega),
        wrap_id (x := b1 * 16777216 + b2 * 65536 + b3 * 256) (by omega) (by omega), wrap_id (x := b1 * 16777216 + b2 * 65536 + b3 * 256 + b4) (by omega) (by omega)]
      exact ⟨_, _, rfl, Int.tmod_nonneg _ (by omega), fun h => Int.tmod_lt_of_pos _ h, k4⟩
theorem once_ok {c : Crs} (hc : CurK c) (n : Int) : ∃ r c', Ss_l1Once c n = some ((r, ()), c', ()) ∧ CurK c' := by
  obtain ⟨r, c', e, _, _, k⟩ := below_ok hc n
  rw [Ss_l1Once_eq, e]
  exact ⟨_, _, rfl, k⟩
theorem pick_ok {c : Crs} (hc : CurK c) (l : List Int) (hl : 0 < l.length) : ∃ r c', Ss_l1PickInt c l = some ((r, ()), c', ()) ∧ CurK c' := by
  obtain ⟨r, c', e, h0, h1, k⟩ := below_ok hc (l.length : Int)
  have h1 := h1 (by omega)
  have g : getI l r = some (l[r.toNat]'(by omega)) := by
    have := getI_ok (xs := l) (i := r.toNat) (by omega)
    rwa [show ((r.toNat : Nat) : Int) = r by omega] at this
  rw [Ss_l1PickInt_eq, e]
  simp only [Option.bind_some, g]
  exact ⟨_, _, rfl, k⟩
theorem odd_ok {c : Crs} (hc : CurK c) : ∃ r c', Ss_l1Odd c = some ((r, ()), c', ()) ∧ CurK c' := by
  rw [Ss_l1Odd_eq]
  obtain ⟨r, c', e, k⟩ := pick_ok hc [0, 1, -1, 2, 400000000, -400000000, 400000001, -400000001, 399999999, 9223372036854775807, -9223372036854775808] (by decide)
  rw [e]
  exact ⟨_, _, rfl, k⟩
def mkB (a b : Int) : Int × Int := bif numB a && numB b then redB a b else (0, 0)
theorem Ss_MakeRatio_val (a b : Int) : Ss_MakeRatio a b = some ((mkB a b, ()), ()) := by
  rw [Ss_MakeRatio_eq, Ss_IsNumber_val, Ss_IsNumber_val]
  unfold mkB
  cases ha : numB a
  · rfl
  cases hb : numB b
  · rfl
  simp only [numB, Bool.and_eq_true, decide_eq_true_eq] at ha hb
  simp only [Option.bind_some, Bool.not_true, cond_false, Bool.and_self, cond_true, Ss_l2Make_val (n := a) (d := b) (by omega) (by omega)]
theorem any_ok {c : Crs} (hc : CurK c) : ∃ r c', Ss_l2Any c = some ((r, ()), c', ()) ∧ CurK c' := by
  rw [Ss_l2Any_eq]
  obtain ⟨r, c1, e, _, _, k⟩ := below_ok hc 12
  simp only [e, Option.bind_some]
  cases r == 0
  · cases r == 1
    · cases r == 2
      · obtain ⟨r2, c2, e2, _, _, k2⟩ := below_ok k 41
        obtain ⟨r3, c3, e3, _, _, k3⟩ := below_ok k2 12
        simp only [cond_false, e2, e3, Option.bind_some, Ss_MakeRatio_val]
        exact ⟨_, _, rfl, k3⟩
      · obtain ⟨r2, c2, e2, _, _, k2⟩ := below_ok k 400000000
        obtain ⟨r3, c3, e3, _, _, k3⟩ := below_ok k2 400000000
        simp only [cond_false, cond_true, e2, e3, Option.bind_some, Ss_MakeRatio_val]
        exact ⟨_, _, rfl, k3⟩
    · obtain ⟨r2, c2, e2, k2⟩ := odd_ok k
      obtain ⟨r3, c3, e3, k3⟩ := pick_ok k2 [1, 2, 400000000, -1, 4] (by decide)
      simp only [cond_false, cond_true, e2, e3, Option.bind_some]
      exact ⟨_, _, rfl, k3⟩
  · exact ⟨_, _, rfl, k⟩
theorem track_loop : ∀ (n : Nat) (c : Crs) (l : List Stp) (t : Int), CurK c → n ≤ 3 → l.length + n ≤ 3 → 0 < l.length + n → ∃ r c', Ls_l8Track_4 c l t (n : Int) = some ((r, ()), c', ()) ∧ CurK c' ∧ r.length ≤ 3 ∧ 0 < r.length
  | 0, c, l, t, hc, h3, hl, hp => by
    rw [Ls_l8Track_4_eq]
    obtain ⟨o, c1, e1, k1⟩ := once_ok hc 24
    simp only [show decide (((0 : Nat) : Int) > 0) = false from rfl, cond_false, e1, Option.bind_some]
    cases o
    · exact ⟨l, c1, rfl, k1, by omega, by omega⟩
    · obtain ⟨r2, c2, e2, k2⟩ := any_ok k1
      have g : getI l 0 = some (l[0]'(by omega)) := getI_ok (i := 0) (by omega)
      simp only [cond_true, e2, g, Option.bind_some]
      exact ⟨_, _, rfl, k2, by simp; omega, by simp; omega⟩
  | n + 1, c, l, t, hc, h3, hl, hp => by
    rw [Ls_l8Track_4_eq]
    obtain ⟨r1, c1, e1, _, _, k1⟩ := below_ok hc 9
    obtain ⟨r2, c2, e2, _, _, k2⟩ := below_ok k1 9
    obtain ⟨r3, c3, e3, _, _, k3⟩ := below_ok k2 4
    have hd : decide ((l.length + 1) * 48 ≤ 140737488355328) = true := by simp; omega
    have hg : decide (((n + 1 : Nat) : Int) > 0) = true := by simp
    simp only [hg, cond_true, Ss_MakeRatio_val, e1, e2, e3, Option.bind_some, Ss_l1Whole_eq, hd]
    rw [show IntKind.i64.wrap (((n + 1 : Nat) : Int) - 1) = ((n : Nat) : Int) by rw [wrap_id] <;> omega]
    exact track_loop n c3 _ _ k3 (by omega) (by simp; omega) (by simp; omega)
theorem draw_track {c : Crs} (hc : CurK c) : ∃ r c', Ss_l8Track c = some ((r, ()), c', ()) ∧ CurK c' ∧ r.length ≤ 3 ∧ 0 < r.length := by
  rw [Ss_l8Track_eq]
  obtain ⟨t, c1, e1, _, _, k1⟩ := below_ok hc 4
  obtain ⟨n, c2, e2, n0, n1, k2⟩ := below_ok k1 3
  have n1 := n1 (by omega)
  simp only [e1, e2, Option.bind_some]
  rw [show IntKind.i64.wrap (1 + n) = ((n.toNat + 1 : Nat) : Int) by rw [wrap_id] <;> omega]
  exact track_loop (n.toNat + 1) c2 [] t k2 (by omega) (by simp; omega) (by simp)
theorem new_loop (x : List Int) (hl : x.length ≤ 1048576) : ∀ (n i : Nat) (h : Int), n + i = x.length → ∃ h', Ls_l1New_3 x h (i : Int) = some (((x, 0, h'), ()), ())
  | 0, i, h, hn => by
    rw [Ls_l1New_3_eq]
    have : decide ((i : Int) < (x.length : Int)) = false := by simp; omega
    rw [this, cond_false]
    exact ⟨_, rfl⟩
  | n + 1, i, h, hn => by
    rw [Ls_l1New_3_eq]
    have hi : i < x.length := by omega
    have : decide ((i : Int) < (x.length : Int)) = true := by simp; omega
    rw [this, cond_true]
    cases decide ((i : Int) < 4000)
    · exact ⟨_, rfl⟩
    · rw [cond_true, getI_ok hi]
      simp only [Option.bind_some]
      rw [show IntKind.i64.wrap ((i : Int) + 1) = ((i + 1 : Nat) : Int) by rw [wrap_id] <;> omega]
      exact new_loop x hl n (i + 1) _ (by omega)
theorem draw_new (x : List Int) (hl : x.length ≤ 1048576) : ∃ c, Ss_l1New x = some ((c, ()), ()) ∧ CurK c := by
  rw [Ss_l1New_eq]
  obtain ⟨h', e⟩ := new_loop x hl x.length 0 (IntKind.i64.wrap (10101 + (x.length : Int))) (by omega)
  exact ⟨_, e, hl, Int.le_refl _, by show (0 : Int) ≤ _; omega⟩
theorem draw_move (x : List Int) (hl : x.length ≤ 1048576) : ∃ l t a b, Ss_DrawMoveTrack x = some ((l, t, a, b, ()), ()) ∧ l.length ≤ 3 := by
  rw [Ss_DrawMoveTrack_eq]
  obtain ⟨c, e, k⟩ := draw_new x hl
  obtain ⟨l, c1, e1, k1, h1, _⟩ := draw_track k
  obtain ⟨r2, c2, e2, k2⟩ := any_ok k1
  obtain ⟨r3, c3, e3, k3⟩ := any_ok k2
  obtain ⟨r4, c4, e4, _, _, k4⟩ := below_ok k3 5
  simp only [e, e1, e2, e3, e4, Option.bind_some, Ss_MakeRatio_val]
  exact ⟨_, _, _, _, rfl, h1⟩
theorem point_one (x : List Int) : ∃ p, Sw_point x 1 = some (([p], ()), ()) := by
  have w1 : IntKind.i64.wrap (0 + 1) = 1 := by decide
  have d1 : decide ((([] : List (Int × Int)).length + 1) * 16 ≤ 140737488355328) = true := by decide
  have fin : ∀ r : Int × Int, Lw_point_3 x 1 ([] ++ [r]) 1 = some (([r], ()), ()) := fun r => by rw [Lw_point_3_eq]; rfl
  rw [Sw_point_eq, Lw_point_3_eq]
  simp only [show decide ((0 : Int) < 1) = true from rfl, cond_true, Ss_MakeRatio_val, Option.bind_some, d1, w1, fin]
  by_cases h : (0 : Int) < (x.length : Int)
  · have g : getI x 0 = some (x[0]'(by omega)) := getI_ok (i := 0) (by omega)
    simp only [h, decide_true, cond_true, g, Option.bind_some]
    exact ⟨_, rfl⟩
  · simp only [h, decide_false, cond_false]
    exact ⟨_, rfl⟩
theorem Sw_big_val (x : List Int) : Sw_big x = some ((decide ((x.length : Int) > 1048576), ()), ()) := Sw_big_eq x
theorem getI_one {p : Int × Int} : getI [p] 0 = some p := rfl
theorem getI_two0 {p q : Int × Int} : getI [p, q] 0 = some p := rfl
theorem getI_two1 {p q : Int × Int} : getI [p, q] 1 = some q := rfl
theorem self_eq (p : Int × Int) : (p.1 == p.1 && p.2 == p.2) = true := by simp
theorem law_Moved (x : List Int) (hx : WfD (.slice 0 (.int .u8)) x) : Sw_FnMoved x = some ((true, ()), ()) := by
  rw [Sw_FnMoved_eq, Sw_big_val]
  simp only [Option.bind_some]
  by_cases hb : (x.length : Int) > 1048576
  · rw [decide_eq_true hb]; rfl
  rw [decide_eq_false hb, cond_false]
  obtain ⟨l, t, a, b, ed, hl⟩ := draw_move x (by omega)
  obtain ⟨p, ep⟩ := point_one x
  simp only [ed, Option.bind_some, Si_MoveTrack_val l t a b (by omega), Ss_MoveTrack_val l t a b (by omega)]
  have hm2 : (moveB l t a b).1.length ≤ 1048576 := by
    unfold moveB
    cases isTrk l
    · simp
    · have := mvEnd_len (l.map (mvS t a b))
      simp only [cond_true, List.length_map] at this ⊢
      omega
  simp only [beq_self_eq_true, Bool.not_true, cond_false]
  cases hm : (moveB l t a b).2 with
  | false =>
    have : (moveB l t a b).1 = [] := by
      unfold moveB at hm ⊢
      cases hx : isTrk l with
      | false => rfl
      | true =>
        rw [hx, cond_true] at hm
        unfold mvEnd at hm ⊢
        cases hy : isTrk (l.map (mvS t a b)) with
        | false => rfl
        | true => rw [hy] at hm; cases hm
    rw [this]; rfl
  | true =>
    have hk : isTrk l = true ∧ isTrk (l.map (mvS t a b)) = true ∧ (moveB l t a b).1 = l.map (mvS t a b) := by
      unfold moveB at hm ⊢
      cases hx : isTrk l with
      | false => rw [hx] at hm; cases hm
      | true =>
        rw [hx, cond_true] at hm
        unfold mvEnd at hm ⊢
        cases hy : isTrk (l.map (mvS t a b)) with
        | false => rw [hy] at hm; cases hm
        | true => exact ⟨rfl, rfl, rfl⟩
    obtain ⟨k1, k2, k3⟩ := hk
    rw [k3] at hm2 ⊢
    rw [Bool.not_true, cond_false, ep, Option.bind_some]; try dsimp only
    rw [getI_one, Option.bind_some]; try dsimp only
    rw [Option.bind_some]; try dsimp only
    rw [Si_PositionAt_val l p (by omega), ptR, Option.bind_some]; try dsimp only
    rw [Option.bind_some]; try dsimp only
    rw [Option.bind_some]; try dsimp only
    rw [Ss_AddRatios_val, Option.bind_some]; try dsimp only
    rw [Si_PositionAt_val _ (addB p t) hm2, ptR, Option.bind_some]; try dsimp only
    rw [Si_SpeedOf_val l (by omega), Option.bind_some]; try dsimp only
    rw [Si_SpeedOf_val _ hm2, Option.bind_some]; try dsimp only
    -- where it is then
    have hpos : (posB l p).2 = true → (posB (l.map (mvS t a b)) (addB p t)).2 = true → ∃ u v, (posB l p).1 = [u, v] ∧ (posB (l.map (mvS t a b)) (addB p t)).1 = [addB u a, addB v b] := by
      intro e1 e2
      unfold posB at e1 e2 ⊢
      cases hp : ratB p with
      | false => rw [hp, Bool.and_false, cond_false] at e1; cases e1
      | true =>
        cases hq : ratB (addB p t) with
        | false => rw [hq, Bool.and_false, cond_false] at e2; cases e2
        | true =>
          simp only [k1, k2, hp, hq, Bool.and_self, cond_true, List.length_map] at e1 e2 ⊢
          exact pos_mv k1 k2 hq l.length 0 (by omega) e1 e2
    have hsp : (speedB l).2 = true → (speedB (l.map (mvS t a b))).2 = true → (speedB l).1 = (speedB (l.map (mvS t a b))).1 := fun h3 h4 => speed_mv k1 k2 h3 h4
    generalize posB l p = P at hpos ⊢
    generalize posB (l.map (mvS t a b)) (addB p t) = Q at hpos ⊢
    generalize speedB l = V at hsp ⊢
    generalize speedB (l.map (mvS t a b)) = W at hsp ⊢
    obtain ⟨P1, P2⟩ := P
    obtain ⟨Q1, Q2⟩ := Q
    obtain ⟨V1, V2⟩ := V
    obtain ⟨W1, W2⟩ := W
    dsimp only at hpos hsp ⊢
    cases V2 <;> cases W2 <;> cases P2 <;> cases Q2 <;> try rfl
    all_goals (try (obtain ⟨u, v, rfl, rfl⟩ := hpos rfl rfl)) <;> (try (obtain rfl := hsp rfl rfl)) <;> simp only [Bool.not_true, Bool.not_false, cond_true, cond_false, getI_two0, getI_two1, Option.bind_some, Ss_AddRatios_val, self_eq]

end Go.Proofs.Ytkanidldnnfloaa.P.It
