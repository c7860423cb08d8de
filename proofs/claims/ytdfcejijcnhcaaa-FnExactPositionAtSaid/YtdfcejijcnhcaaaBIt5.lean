/- A part of the proof: It5. No conditions. -/
import Derived.Test.YtdfcejijcnhcaaaBIt4
set_option linter.unusedVariables false
namespace Go.Proofs.Ytdfcejijcnhcaaa.B.It
open Am

/-! ### ratios -/
theorem abs71 {a : Int} (h : a.natAbs ≤ 4000000000000000000) : S71 a = some (((a.natAbs : Int), ()), ()) := by
  rw [S71_eq]
  by_cases h0 : a < 0
  · simp only [h0, decide_true, cond_true]
    rw [wrap_id (by omega) (by omega)]
    congr 3; omega
  · simp only [h0, decide_false, cond_false]
    congr 3; omega
theorem abs124 {a : Int} (h : a.natAbs ≤ 4000000000000000000) : S124 a = some (((a.natAbs : Int), ()), ()) := by
  rw [S124_eq]
  rw [wrap_id (by omega) (by omega)]
  simp only [cond_true]
  congr 3
  split <;> omega

theorem tdiv_le (a b : Int) : (a.tdiv b).natAbs ≤ a.natAbs := by
  rw [Int.natAbs_tdiv]
  exact Nat.div_le_self _ _

def low (n d : Int) : Int × Int := bif ratB (n.tdiv (Nat.gcd n.natAbs d.natAbs : Nat), d.tdiv (Nat.gcd n.natAbs d.natAbs : Nat)) then (n.tdiv (Nat.gcd n.natAbs d.natAbs : Nat), d.tdiv (Nat.gcd n.natAbs d.natAbs : Nat)) else (0, 0)
def redB (n d : Int) : Int × Int := bif d == 0 then (0, 0) else bif decide (d < 0) then low (-n) (-d) else low n d

theorem L90_val : ∀ (k : Nat) (n d : Int) (x4 : Int × Int) (a b : Int), b.natAbs ≤ k → a.natAbs ≤ 4000000000000000000 → b.natAbs ≤ 4000000000000000000 → n.natAbs ≤ 4000000000000000000 → d.natAbs ≤ 4000000000000000000 →
    Nat.gcd a.natAbs b.natAbs = Nat.gcd n.natAbs d.natAbs → Nat.gcd n.natAbs d.natAbs ≠ 0 → L90_7 n d x4 a b = some ((low n d, ()), ())
  | k, n, d, x4, a, b, hk, ha, hb, hn, hd, hg, h0 => by
    rw [L90_7_eq]
    by_cases hb0 : b = 0
    · subst hb0
      simp only [bne_self_eq_false, cond_false, abs124 ha, Option.bind_some]
      have hg' : a.natAbs = Nat.gcd n.natAbs d.natAbs := by simpa using hg
      have hne : ((a.natAbs : Int) != 0) = true := by simp; omega
      rw [hne, cond_true, cond_true, hg']
      have e1 := tdiv_le n ((Nat.gcd n.natAbs d.natAbs : Nat) : Int)
      have e2 := tdiv_le d ((Nat.gcd n.natAbs d.natAbs : Nat) : Int)
      rw [wrap_id (by omega) (by omega), wrap_id (by omega) (by omega), S60_val]
      simp only [Option.bind_some]
      unfold low
      cases ratB (n.tdiv (Nat.gcd n.natAbs d.natAbs : Nat), d.tdiv (Nat.gcd n.natAbs d.natAbs : Nat)) <;> rfl
    · have : (b != 0) = true := by simpa using hb0
      rw [this, cond_true, cond_true]
      have hlt : a.natAbs % b.natAbs < b.natAbs := Nat.mod_lt _ (by omega)
      have hm := Int.natAbs_tmod a b
      cases k with
      | zero => omega
      | succ k =>
        refine L90_val k n d x4 b (Int.tmod a b) (by omega) hb (by omega) hn hd ?_ h0
        rw [hm, ← hg, Nat.gcd_comm a.natAbs, Nat.gcd_rec b.natAbs a.natAbs, Nat.gcd_comm]
  termination_by k => k

theorem S90_val {n d : Int} (hn : n.natAbs ≤ 4000000000000000000) (hd : d.natAbs ≤ 4000000000000000000) : S90 n d = some ((redB n d, ()), ()) := by
  rw [S90_eq]
  unfold redB
  by_cases h0 : d = 0
  · subst h0
    rfl
  · have : (d == 0) = false := by simpa using h0
    rw [this, cond_false, cond_false]
    have hg : Nat.gcd n.natAbs d.natAbs ≠ 0 := fun h => by
      have := Nat.gcd_eq_zero_iff.1 h
      omega
    by_cases hs : d < 0
    · simp only [hs, decide_true, cond_true]
      rw [wrap_id (by omega) (by omega), wrap_id (by omega) (by omega), Int.zero_sub, Int.zero_sub]
      exact L90_val _ _ _ _ _ _ (Nat.le_refl _) (by omega) (by omega) (by omega) (by omega) rfl (by rwa [Int.natAbs_neg, Int.natAbs_neg])
    · simp only [hs, decide_false, cond_false]
      exact L90_val _ _ _ _ _ _ (Nat.le_refl _) (by omega) (by omega) (by omega) (by omega) rfl hg

theorem S114_val {a b : Int} (ha : a.natAbs ≤ 4000000000000000000) (hb : b.natAbs ≤ 4000000000000000000) : S114 a b = some ((((Nat.gcd a.natAbs b.natAbs : Nat) : Int), ()), ()) := by
  rw [S114_eq, abs71 ha, abs71 hb]
  simp only [Option.bind_some]
  rw [L114_val _ _ _ (Nat.le_refl _) (by omega) (by omega)]
  simp

theorem S107_val {n d : Int} (hn : n.natAbs ≤ 4000000000000000000) (hd : d.natAbs ≤ 4000000000000000000) : S107 n d = some ((redB n d, ()), ()) := by
  rw [S107_eq]
  unfold redB
  by_cases h0 : d = 0
  · subst h0
    rfl
  · have : (d == 0) = false := by simpa using h0
    rw [this, cond_false, cond_false]
    have hg : Nat.gcd n.natAbs d.natAbs ≠ 0 := fun h => by
      have := Nat.gcd_eq_zero_iff.1 h
      omega
    have hlow : ∀ n d : Int, n.natAbs ≤ 4000000000000000000 → d.natAbs ≤ 4000000000000000000 → Nat.gcd n.natAbs d.natAbs ≠ 0 →
        ((S114 n d).bind fun (y : (Int × PUnit) × PUnit) =>
      bif y.fst.fst != 0 then
        bif y.fst.fst != 0 then
          (S64 (IntKind.i64.wrap (n.tdiv y.fst.fst), IntKind.i64.wrap (d.tdiv y.fst.fst))).bind
            fun (y_1 : (Bool × PUnit) × PUnit) =>
            bif !y_1.fst.fst then some (((ty3.zero, (Ty.int IntKind.i64).zero), ()), ())
            else some (((IntKind.i64.wrap (n.tdiv y.fst.fst), IntKind.i64.wrap (d.tdiv y.fst.fst)), ()), ())
        else none
      else none) = some ((low n d, ()), ()) := by
      intro n d hn hd hg
      rw [S114_val hn hd]
      simp only [Option.bind_some]
      have hne : (((Nat.gcd n.natAbs d.natAbs : Nat) : Int) != 0) = true := by
        simp only [bne_iff_ne, ne_eq]
        omega
      have e1 := tdiv_le n ((Nat.gcd n.natAbs d.natAbs : Nat) : Int)
      have e2 := tdiv_le d ((Nat.gcd n.natAbs d.natAbs : Nat) : Int)
      rw [hne, cond_true, cond_true, wrap_id (by omega) (by omega), wrap_id (by omega) (by omega), S64_val]
      simp only [Option.bind_some]
      unfold low
      cases ratB (n.tdiv (Nat.gcd n.natAbs d.natAbs : Nat), d.tdiv (Nat.gcd n.natAbs d.natAbs : Nat)) <;> rfl
    by_cases hs : d < 0
    · simp only [hs, decide_true, cond_true]
      rw [wrap_id (x := 0 - n) (by omega) (by omega), wrap_id (x := 0 - d) (by omega) (by omega), Int.zero_sub, Int.zero_sub]
      exact hlow _ _ (by omega) (by omega) (by rwa [Int.natAbs_neg, Int.natAbs_neg])
    · simp only [hs, decide_false, cond_false]
      exact hlow _ _ hn hd hg

theorem rat_bd {r : Int × Int} (h : ratB r = true) : r.1.natAbs ≤ 400000000 ∧ r.2.natAbs ≤ 400000000 ∧ 1 ≤ r.2 := by
  simp only [ratB, numB, Bool.and_eq_true, decide_eq_true_eq] at h
  omega

theorem prod_bd {a b : Int} (ha : a.natAbs ≤ 400000000) (hb : b.natAbs ≤ 400000000) : (a * b).natAbs ≤ 160000000000000000 := by
  rw [Int.natAbs_mul]
  exact Nat.mul_le_mul ha hb

theorem wrap_prod {a b : Int} (ha : a.natAbs ≤ 400000000) (hb : b.natAbs ≤ 400000000) : IntKind.i64.wrap (a * b) = a * b := by
  have := prod_bd ha hb
  exact wrap_id (by omega) (by omega)

def addB (a b : Int × Int) : Int × Int := bif ratB a && ratB b then redB (a.1 * b.2 + b.1 * a.2) (a.2 * b.2) else (0, 0)
theorem S42_val (a b : Int × Int) : S42 a b = some ((addB a b, ()), ()) := by
  rw [S42_eq, S60_val, S60_val]
  unfold addB
  cases ha : ratB a <;> cases hb : ratB b <;> simp only [Option.bind_some, Bool.not_true, Bool.not_false, cond_true, cond_false, Bool.and_true, Bool.and_false, Bool.and_self]
  · rfl
  · rfl
  · rfl
  obtain ⟨a1, a2, _⟩ := rat_bd ha
  obtain ⟨b1, b2, _⟩ := rat_bd hb
  have e1 := prod_bd a1 b2
  have e2 := prod_bd b1 a2
  have e3 := prod_bd a2 b2
  rw [wrap_prod a1 b2, wrap_prod b1 a2, wrap_prod a2 b2, wrap_id (by omega) (by omega), S90_val (by omega) (by omega)]
  rfl
theorem S66_val (a b : Int × Int) : S66 a b = some ((addB a b, ()), ()) := by
  rw [S66_eq, S64_val, S64_val]
  unfold addB
  cases ha : ratB a <;> cases hb : ratB b <;> simp only [Option.bind_some, Bool.not_true, Bool.not_false, cond_true, cond_false, Bool.and_true, Bool.and_false, Bool.and_self]
  · rfl
  · rfl
  · rfl
  obtain ⟨a1, a2, _⟩ := rat_bd ha
  obtain ⟨b1, b2, _⟩ := rat_bd hb
  have e1 := prod_bd a1 b2
  have e2 := prod_bd b1 a2
  have e3 := prod_bd a2 b2
  rw [wrap_prod a1 b2, wrap_prod b1 a2, wrap_prod a2 b2, wrap_id (by omega) (by omega), S107_val (by omega) (by omega)]
  rfl

/-! ### tracks, again -/
def isTrk (x : List Stp) : Bool := trk x x.length 0 && (decide (1 ≤ (x.length : Int)) && decide ((x.length : Int) ≤ 6))
theorem S14_val (x : List Stp) (hl : x.length ≤ 1048576) : S14 x = some ((isTrk x, ()), ()) := by
  rw [S14_eq]
  exact L14_val x hl x.length 0 (by omega)
theorem S16_val (x : List Stp) (hl : x.length ≤ 1048576) : S16 x = some ((isTrk x, ()), ()) := by
  obtain ⟨b, h1, h2⟩ := isTrack_same x hl
  rw [S14_val x hl] at h1
  injection h1 with h1
  injection h1 with h1 _
  injection h1 with h1 _
  rw [h2, h1]
theorem isTrk_len {x : List Stp} (h : isTrk x = true) : 1 ≤ x.length ∧ x.length ≤ 6 := by
  simp only [isTrk, Bool.and_eq_true, decide_eq_true_eq] at h
  omega

theorem S13_val (x : List Stp) (k : Int) (h1 : (x.length : Int) ≤ 9223372036854775807) (hk : 0 ≤ k) (hk2 : k ≤ 1048576) : ∃ m, S13 x k = some ((m, ()), ()) ∧ (m < 0 ∨ (0 ≤ m ∧ m ≤ k ∧ (x.length : Int) ≤ k)) := by
  rw [S13_eq, wrap_id (by omega) (by omega)]
  by_cases h : k - (x.length : Int) < 0
  · exact ⟨-1, by simp [h], .inl (by omega)⟩
  · exact ⟨k - (x.length : Int), by simp only [h, decide_false, cond_false], .inr (by omega)⟩

/-! ### marks -/
def mk6 (k : Int) : Stp := ((k, k + 1), (k + 2, k + 3), k + 4, k + 5)
def mkL : Nat → Int → List Stp
  | 0, _ => []
  | n + 1, k => mk6 k :: mkL n (k + 6)
theorem mkL_len : ∀ (n : Nat) (k : Int), (mkL n k).length = n
  | 0, _ => rfl
  | n + 1, k => by simp [mkL, mkL_len n]
theorem mkL_get : ∀ (n : Nat) (k : Int) (i : Nat) (h : i < (mkL n k).length), (mkL n k)[i] = mk6 (k + 6 * i)
  | 0, _, i, h => absurd h (by simp [mkL])
  | n + 1, k, 0, h => by simp [mkL]
  | n + 1, k, i + 1, h => by
    simp only [mkL, List.getElem_cons_succ]
    rw [mkL_get n (k + 6) i (by simpa [mkL] using h)]
    congr 1; omega

theorem set_nat {α : Type} (x : List α) (i : Nat) (v : α) : x.set ((i : Int)).toNat v = x.set i v := by rw [Int.toNat_natCast]
theorem getI_set {α : Type} {x : List α} {i : Nat} (h : i < x.length) (v : α) : getI (x.set i v) (i : Int) = some v := by
  rw [getI_ok (by simpa using h)]
  simp

theorem L20_val : ∀ (n i : Nat) (x : List Stp) (k : Int), n + i = x.length → x.length ≤ 1048576 → 0 ≤ k → k + 6 * n ≤ 1000000000 →
    L20_2 x k (i : Int) = some ((k + 6 * n, ()), x.take i ++ mkL n k, ())
  | 0, i, x, k, hn, hl, h0, hk => by
    rw [L20_2_eq]
    have : decide ((i : Int) < (x.length : Int)) = false := by simp; omega
    rw [this, cond_false, List.take_of_length_le (by omega)]
    simp [mkL]
  | n + 1, i, x, k, hn, hl, h0, hk => by
    rw [L20_2_eq]
    have hi : i < x.length := by omega
    have : decide ((i : Int) < (x.length : Int)) = true := by simp; omega
    have w1 : IntKind.i64.wrap (k + 1) = k + 1 := wrap_id (by omega) (by omega)
    have w2 : IntKind.i64.wrap (k + 1 + 1) = k + 2 := by rw [wrap_id (by omega) (by omega)]; omega
    have w3 : IntKind.i64.wrap (k + 2 + 1) = k + 3 := by rw [wrap_id (by omega) (by omega)]; omega
    have w4 : IntKind.i64.wrap (k + 3 + 1) = k + 4 := by rw [wrap_id (by omega) (by omega)]; omega
    have w5 : IntKind.i64.wrap (k + 4 + 1) = k + 5 := by rw [wrap_id (by omega) (by omega)]; omega
    have w6 : IntKind.i64.wrap (k + 5 + 1) = k + 6 := by rw [wrap_id (by omega) (by omega)]; omega
    have w7 : IntKind.i64.wrap ((i : Int) + 1) = ((i + 1 : Nat) : Int) := by rw [wrap_id] <;> omega
    rw [this, cond_true, getI_ok hi]
    simp only [Option.bind_some, set_nat, List.set_set, getI_set hi, w1, w2, w3, w4, w5, w6, w7]
    rw [L20_val n (i + 1) _ (k + 6) (by simp; omega) (by simpa using hl) (by omega) (by omega)]
    have e1 : (x.set i (mk6 k)).take (i + 1) = x.take i ++ [mk6 k] := by
      rw [List.take_add_one, List.take_set_of_le (by omega)]
      simp [hi]
    have e2 : ((k, k + 1), (k + 2, k + 3), k + 4, k + 5) = mk6 k := rfl
    rw [e2, e1, List.append_assoc]
    congr 3
    omega

theorem S20_val {x : List Stp} {k : Int} (hl : x.length ≤ 1048576) (h0 : 0 ≤ k) (hk : k + 6 * x.length ≤ 1000000000) : S20 x k = some ((k + 6 * x.length, ()), mkL x.length k, ()) := by
  rw [S20_eq]
  exact L20_val x.length 0 x k (by omega) hl h0 hk

theorem L21_val : ∀ (n i : Nat) (m : Nat) (k : Int), n + i = m → m ≤ 1048576 → 0 ≤ k → k + 6 * m ≤ 1000000000 → L21_2 (mkL m k) (k + 6 * i) (i : Int) = some ((k + 6 * m, ()), ())
  | 0, i, m, k, hn, hl, h0, hk => by
    rw [L21_2_eq]
    have : decide ((i : Int) < ((mkL m k).length : Int)) = false := by rw [mkL_len]; simp; omega
    rw [this, cond_false]
    congr 3; omega
  | n + 1, i, m, k, hn, hl, h0, hk => by
    rw [L21_2_eq]
    have hi : i < (mkL m k).length := by rw [mkL_len]; omega
    have : decide ((i : Int) < ((mkL m k).length : Int)) = true := by rw [mkL_len]; simp; omega
    rw [this, cond_true, getI_ok hi, mkL_get]
    generalize hq : k + 6 * (i : Int) = q
    have w1 : IntKind.i64.wrap (q + 1) = q + 1 := wrap_id (by omega) (by omega)
    have w2 : IntKind.i64.wrap (q + 1 + 1) = q + 2 := by rw [wrap_id (by omega) (by omega)]; omega
    have w3 : IntKind.i64.wrap (q + 2 + 1) = q + 3 := by rw [wrap_id (by omega) (by omega)]; omega
    have w4 : IntKind.i64.wrap (q + 3 + 1) = q + 4 := by rw [wrap_id (by omega) (by omega)]; omega
    have w5 : IntKind.i64.wrap (q + 4 + 1) = q + 5 := by rw [wrap_id (by omega) (by omega)]; omega
    have w6 : IntKind.i64.wrap (q + 5 + 1) = q + 6 := by rw [wrap_id (by omega) (by omega)]; omega
    have w7 : IntKind.i64.wrap ((i : Int) + 1) = ((i + 1 : Nat) : Int) := by rw [wrap_id] <;> omega
    simp only [Option.bind_some, w1, w2, w3, w4, w5, w6, w7, mk6, bne_self_eq_false, cond_false]
    have e1 : q + 6 = k + 6 * ((i + 1 : Nat) : Int) := by omega
    rw [e1]
    exact L21_val n (i + 1) m k (by omega) hl h0 hk

theorem S21_val {m : Nat} {k : Int} (hl : m ≤ 1048576) (h0 : 0 ≤ k) (hk : k + 6 * m ≤ 1000000000) : S21 (mkL m k) k = some ((k + 6 * m, ()), ()) := by
  rw [S21_eq]
  have := L21_val m 0 m k (by omega) hl h0 hk
  simpa using this

/-! ### JoinTracks -/
theorem join_same (a b : List Stp) (ha : a.length ≤ 1048576) (hb : b.length ≤ 1048576) : ∃ r ok, S18 a b = some ((r, ok, ()), ()) ∧ S19 a b = some ((r, ok, ()), ()) ∧ r.length ≤ 12 := by
  rw [S18_eq, S19_eq, S14_val a ha, S16_val a ha, S14_val b hb, S16_val b hb]
  simp only [Option.bind_some]
  cases h1 : isTrk a with
  | false => exact ⟨[], false, rfl, rfl, by simp⟩
  | true =>
    cases h2 : isTrk b with
    | false => exact ⟨[], false, rfl, rfl, by simp⟩
    | true =>
      obtain ⟨a1, a2⟩ := isTrk_len h1
      obtain ⟨b1, b2⟩ := isTrk_len h2
      simp only [Bool.not_true, cond_false]
      rw [show IntKind.i64.wrap ((a.length : Int) - 1) = ((a.length - 1 : Nat) : Int) by rw [wrap_id] <;> omega, getI_ok (by omega), show (0 : Int) = ((0 : Nat) : Int) from rfl, getI_ok (by omega)]
      simp only [Option.bind_some]
      cases (!(a[a.length - 1].fst.fst == b[0].fst.fst && a[a.length - 1].fst.snd == b[0].fst.snd && (a[a.length - 1].snd.fst.fst == b[0].snd.fst.fst && a[a.length - 1].snd.fst.snd == b[0].snd.fst.snd && (a[a.length - 1].snd.snd.fst == b[0].snd.snd.fst && a[a.length - 1].snd.snd.snd == b[0].snd.snd.snd)))) with
      | true => exact ⟨[], false, rfl, rfl, by simp⟩
      | false =>
        rw [cond_false]
        cases decide (IntKind.i64.wrap (IntKind.i64.wrap ((a.length : Int) + (b.length : Int)) - 1) > 6) with
        | true => exact ⟨[], false, rfl, rfl, by simp⟩
        | false =>
          rw [cond_false]
          have e1 : decide ((0 + a.length) * 48 ≤ 140737488355328) = true := by simp; omega
          have e2 : (decide ((0 : Nat) ≤ 1) && decide (1 ≤ (b.length : Int)) && decide ((b.length : Int) ≤ (b.length : Int))) = true := by simp; omega
          have e3 : decide ((a.length + (List.drop (Int.toNat 1) (List.take (b.length : Int).toNat b)).length) * 48 ≤ 140737488355328) = true := by simp; omega
          rw [e1, cond_true, e2, cond_true, e3, cond_true]
          exact ⟨_, true, rfl, rfl, by simp; omega⟩

theorem law4 (a b : List Stp) (ha : a.length ≤ maxLen) (hb : b.length ≤ maxLen) : S4 a b = some ((true, ()), ()) := by
  have hm : maxLen = 9223372036854775807 := by decide
  rw [hm] at ha hb
  rw [S4_eq]
  obtain ⟨m, h1, h2⟩ := S13_val a 1048576 (by omega) (by omega) (by omega)
  rw [h1]
  simp only [Option.bind_some]
  by_cases hm0 : m < 0
  · simp [hm0]
  obtain ⟨c1, c2, c3⟩ := h2.resolve_left hm0
  simp only [hm0, decide_false, cond_false]
  obtain ⟨m2, h3, h4⟩ := S13_val b m (by omega) (by omega) (by omega)
  rw [h3]
  simp only [Option.bind_some]
  by_cases hm2 : m2 < 0
  · simp [hm2]
  obtain ⟨d1, d2, d3⟩ := h4.resolve_left hm2
  simp only [hm2, decide_false, cond_false]
  have la : a.length ≤ 1048576 := by omega
  have lb : b.length ≤ 1048576 := by omega
  obtain ⟨r, ok, j1, j2, j3⟩ := join_same a b la lb
  have hr : r.length ≤ 1048576 := by omega
  simp only [S15_val a la, S15_val b lb, Option.bind_some, j1, j2, S17_val r hr, S17_val a la, S17_val b lb, Bool.not_true, cond_false]
  have hok : (!(ok == ok)) = false := by cases ok <;> rfl
  rw [S20_val la (by omega) (by omega)]
  simp only [Option.bind_some]
  rw [S20_val lb (by omega) (by omega)]
  simp only [Option.bind_some]
  rw [S20_val (k := 1) hr (by omega) (by omega)]
  simp only [Option.bind_some]
  rw [S21_val hr (by omega) (by omega)]
  have hk : decide (1 + 6 * (a.length : Int) + 6 * (b.length : Int) < 0) = false := by simp; omega
  have hk2 : decide (1 + 6 * (r.length : Int) < 0) = false := by simp; omega
  simp only [Option.bind_some, hok, cond_false, hk, hk2, bne_self_eq_false]
end Go.Proofs.Ytdfcejijcnhcaaa.B.It
