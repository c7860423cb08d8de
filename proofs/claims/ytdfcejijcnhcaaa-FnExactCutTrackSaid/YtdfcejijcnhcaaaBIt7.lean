/- A part of the proof: It7. No conditions. -/
import Derived.Test.YtdfcejijcnhcaaaBIt6
set_option linter.unusedVariables false
set_option linter.unusedSimpArgs false
namespace Go.Proofs.Ytdfcejijcnhcaaa.B.It
open Am

/-! ### the order of ratios -/
theorem less_iff {a b : Int × Int} (ha : ratB a = true) (hb : ratB b = true) : lessB a b = decide (a.1 * b.2 < b.1 * a.2) := by
  obtain ⟨a1, a2, _⟩ := rat_bd ha
  obtain ⟨b1, b2, _⟩ := rat_bd hb
  unfold lessB
  rw [wrap_prod a1 b2, wrap_prod b1 a2]
theorem less_asym {a b : Int × Int} (ha : ratB a = true) (hb : ratB b = true) (h : lessB a b = true) : lessB b a = false := by
  rw [less_iff ha hb] at h
  rw [less_iff hb ha]
  simp only [decide_eq_true_eq, decide_eq_false_iff_not] at h ⊢
  omega
theorem less_irr (a : Int × Int) : lessB a a = false := by
  unfold lessB
  simp
theorem less_trans {a b c : Int × Int} (ha : ratB a = true) (hb : ratB b = true) (hc : ratB c = true) (h1 : lessB a b = true) (h2 : lessB b c = true) : lessB a c = true := by
  obtain ⟨_, _, pa⟩ := rat_bd ha
  obtain ⟨_, _, pb⟩ := rat_bd hb
  obtain ⟨_, _, pc⟩ := rat_bd hc
  rw [less_iff ha hb] at h1
  rw [less_iff hb hc] at h2
  rw [less_iff ha hc]
  simp only [decide_eq_true_eq] at h1 h2 ⊢
  have e1 : a.1 * b.2 * c.2 < b.1 * a.2 * c.2 := Int.mul_lt_mul_of_pos_right h1 (by omega)
  have e2 : b.1 * c.2 * a.2 < c.1 * b.2 * a.2 := Int.mul_lt_mul_of_pos_right h2 (by omega)
  have e3 : b.1 * a.2 * c.2 = b.1 * c.2 * a.2 := by rw [Int.mul_assoc, Int.mul_comm a.2, ← Int.mul_assoc]
  have e4 : a.1 * c.2 * b.2 < c.1 * a.2 * b.2 := by
    rw [Int.mul_assoc a.1, Int.mul_comm c.2, ← Int.mul_assoc, Int.mul_assoc c.1, Int.mul_comm a.2, ← Int.mul_assoc]
    omega
  exact Int.lt_of_mul_lt_mul_right e4 (by omega)
theorem rat_gcd {a : Int × Int} (ha : ratB a = true) : Nat.gcd a.1.natAbs a.2.natAbs = 1 := by
  have hb := rat_bd ha
  have e1 : numB a.1 = true := by simp only [numB, Bool.and_eq_true, decide_eq_true_eq]; omega
  have e2 : numB a.2 = true := by simp only [numB, Bool.and_eq_true, decide_eq_true_eq]; omega
  simp only [ratB, gcdB, e1, e2, Bool.and_eq_true, Bool.and_self, cond_true, beq_iff_eq] at ha
  omega
theorem less_tri {a b : Int × Int} (ha : ratB a = true) (hb : ratB b = true) (h1 : lessB a b = false) (h2 : lessB b a = false) : a = b := by
  obtain ⟨_, _, pa⟩ := rat_bd ha
  obtain ⟨_, _, pb⟩ := rat_bd hb
  rw [less_iff ha hb] at h1
  rw [less_iff hb ha] at h2
  simp only [decide_eq_false_iff_not] at h1 h2
  have he : a.1 * b.2 = b.1 * a.2 := by omega
  have hn : a.1.natAbs * b.2.natAbs = b.1.natAbs * a.2.natAbs := by rw [← Int.natAbs_mul, ← Int.natAbs_mul, he]
  have ca : Nat.Coprime a.2.natAbs a.1.natAbs := by rw [Nat.coprime_comm]; exact rat_gcd ha
  have cb : Nat.Coprime b.2.natAbs b.1.natAbs := by rw [Nat.coprime_comm]; exact rat_gcd hb
  have d1 : a.2.natAbs ∣ b.2.natAbs := ca.dvd_of_dvd_mul_left (by rw [hn]; exact Nat.dvd_mul_left _ _)
  have d2 : b.2.natAbs ∣ a.2.natAbs := cb.dvd_of_dvd_mul_left (by rw [← hn]; exact Nat.dvd_mul_left _ _)
  have e2 : a.2 = b.2 := by
    have := Nat.dvd_antisymm d1 d2
    omega
  have e1 : a.1 = b.1 := by
    rw [e2] at he
    exact Int.eq_of_mul_eq_mul_right (by omega) he
  exact Prod.ext e1 e2
theorem cmp_val {a b : Int × Int} (ha : ratB a = true) (hb : ratB b = true) : S51 a b = some (((bif lessB a b then -1 else bif lessB b a then 1 else 0 : Int), ()), ()) := by
  rw [S51_eq, S64_val, S64_val]
  simp only [Option.bind_some, ha, hb, Bool.not_true, cond_false]
  unfold lessB
  by_cases h1 : IntKind.i64.wrap (a.1 * b.2) < IntKind.i64.wrap (b.1 * a.2)
  · simp [h1]
  · by_cases h2 : IntKind.i64.wrap (b.1 * a.2) < IntKind.i64.wrap (a.1 * b.2)
    · simp [h1, h2]
    · simp [h1, h2]

theorem trk_spec (x : List Stp) : ∀ (n i : Nat), trk x n i = true → ∀ j (hj : j < x.length), i ≤ j → j < i + n → ratB x[j].1 = true ∧ ratB x[j].2.1 = true ∧ ratB x[j].2.2 = true ∧ ∀ k (hk : k < x.length), j = k + 1 → lessB x[k].1 x[j].1 = true
  | 0, i, h, j, hj, h1, h2 => absurd h2 (by omega)
  | n + 1, i, h, j, hj, h1, h2 => by
    simp only [trk, Bool.and_eq_true] at h
    obtain ⟨h3, h4⟩ := h
    by_cases hij : j = i
    · subst hij
      rw [List.getElem?_eq_getElem hj] at h3
      simp only [Bool.and_eq_true] at h3
      obtain ⟨⟨⟨e1, e2⟩, e3⟩, e4⟩ := h3
      refine ⟨e1, e2, e3, fun k hk hjk => ?_⟩
      subst hjk
      simp only [List.getElem?_eq_getElem hk] at e4
      exact e4
    · exact trk_spec x n (i + 1) h4 j hj (by omega) (by omega)
theorem isTrk_spec {x : List Stp} (h : isTrk x = true) (j : Nat) (hj : j < x.length) : ratB x[j].1 = true ∧ ratB x[j].2.1 = true ∧ ratB x[j].2.2 = true ∧ ∀ k (hk : k < x.length), j = k + 1 → lessB x[k].1 x[j].1 = true := by
  simp only [isTrk, Bool.and_eq_true] at h
  exact trk_spec x x.length 0 h.1 j hj (by omega) (by omega)

/-! ### PositionAt -/
def valB (l : Lin) (t : Int × Int) : Int × Int := addB (mulB l.1 t) l.2
theorem S91_val (l : Lin) (t : Int × Int) : S91 l t = some ((valB l t, ()), ()) := by
  rw [S91_eq]
  simp only [S125_val, S42_val, Option.bind_some]
  rfl
theorem S92_two (p q : Int × Int) : S92 [p, q] 2 = some ((ratB p && ratB q, ()), ()) := by
  have g0 : getI [p, q] 0 = some p := rfl
  have g1 : getI [p, q] 1 = some q := rfl
  have w0 : IntKind.i64.wrap (0 + 1) = 1 := by decide
  have w1 : IntKind.i64.wrap (1 + 1) = 2 := by decide
  rw [S92_eq, L92_2_eq]
  simp only [List.length_cons, List.length_nil, show decide ((0 : Int) < ((0 + 1 + 1 : Nat) : Int)) = true from rfl, cond_true, g0, Option.bind_some, S60_val, w0]
  cases ratB p
  · rfl
  simp only [Bool.not_true, cond_false, Bool.true_and]
  rw [L92_2_eq]
  simp only [List.length_cons, List.length_nil, show decide ((1 : Int) < ((0 + 1 + 1 : Nat) : Int)) = true from rfl, cond_true, g1, Option.bind_some, S60_val, w1]
  cases ratB q
  · rfl
  simp only [Bool.not_true, cond_false]
  rw [L92_2_eq]
  rfl
theorem S89_two (p q : Int × Int) : S89 [p, q] 2 = some ((ratB p && ratB q, ()), ()) := by
  have g0 : getI [p, q] 0 = some p := rfl
  have g1 : getI [p, q] 1 = some q := rfl
  have w0 : IntKind.i64.wrap (0 + 1) = 1 := by decide
  have w1 : IntKind.i64.wrap (1 + 1) = 2 := by decide
  rw [S89_eq]
  simp only [List.length_cons, List.length_nil, show (((0 + 1 + 1 : Nat) : Int) != 2) = false from rfl, cond_false]
  rw [L89_4_eq]
  simp only [show decide ((0 : Int) < ((0 + 1 + 1 : Nat) : Int)) = true from rfl, cond_true, g0, Option.bind_some, S64_val, w0]
  cases ratB p
  · rfl
  simp only [Bool.not_true, cond_false, Bool.true_and]
  rw [L89_4_eq]
  simp only [show decide ((1 : Int) < ((0 + 1 + 1 : Nat) : Int)) = true from rfl, cond_true, g1, Option.bind_some, S64_val, w1]
  cases ratB q
  · rfl
  simp only [Bool.not_true, cond_false]
  rw [L89_4_eq]
  rfl

abbrev Pt := List (Int × Int)
def ptB (p s : Stp) (t : Int × Int) : Pt × Bool := bif legOk p s && (ratB (valB (xL p s) t) && ratB (valB (yL p s) t)) then ([valB (xL p s) t, valB (yL p s) t], true) else ([], false)
/-- The position at a time. -/
def posS (x : List Stp) (t : Int × Int) : Nat → Nat → Pt × Bool
  | 0, _ => ([], false)
  | n + 1, i => match x[i]? with
    | none => ([], false)
    | some s => bif s.1.1 == t.1 && s.1.2 == t.2 then ([s.2.1, s.2.2], true) else match i with
      | 0 => posS x t n 1
      | j + 1 => match x[j]? with
        | none => ([], false)
        | some p => bif lessB p.1 t && lessB t s.1 then ptB p s t else posS x t n (j + 2)
def ptR (r : Pt × Bool) : Option ((Pt × Bool × PUnit) × PUnit) := some ((r.1, r.2, ()), ())

theorem eqR {a b : Int × Int} : (a.1 == b.1 && a.2 == b.2) = decide (a = b) := by
  obtain ⟨a1, a2⟩ := a
  obtain ⟨b1, b2⟩ := b
  rw [Bool.eq_iff_iff]
  simp

theorem L43_val (x : List Stp) (t : Int × Int) (hl : x.length ≤ 6) : ∀ (n i : Nat), n + i = x.length → L43_4 x t (i : Int) = ptR (posS x t n i)
  | 0, i, hn => by
    rw [L43_4_eq]
    have : decide ((i : Int) < (x.length : Int)) = false := by simp; omega
    rw [this, cond_false]
    rfl
  | n + 1, i, hn => by
    rw [L43_4_eq]
    have hi : i < x.length := by omega
    have : decide ((i : Int) < (x.length : Int)) = true := by simp; omega
    rw [this, cond_true, getI_ok hi]
    simp only [Option.bind_some, posS, List.getElem?_eq_getElem hi]
    rw [show IntKind.i64.wrap ((i : Int) + 1) = ((i + 1 : Nat) : Int) by rw [wrap_id] <;> omega, L43_val x t hl n (i + 1) (by omega)]
    cases (x[i].fst.fst == t.fst && x[i].fst.snd == t.snd) with
    | true => rfl
    | false =>
      simp only [cond_false]
      cases i with
      | zero => rfl
      | succ j =>
        have : decide (((j + 1 : Nat) : Int) > 0) = true := by simp
        rw [this, cond_true, show IntKind.i64.wrap (((j + 1 : Nat) : Int) - 1) = ((j : Nat) : Int) by rw [wrap_id] <;> omega, getI_ok (by omega)]
        simp only [Option.bind_some, S61_val, List.getElem?_eq_getElem (show j < x.length by omega)]
        cases lessB x[j].1 t with
        | false => rfl
        | true =>
          cases lessB t x[j + 1].1 with
          | false => rfl
          | true =>
            simp only [cond_true, S68_val, S91_val, Option.bind_some, S92_two, Bool.and_self]
            unfold ptB
            cases legOk x[j] x[j + 1] <;> cases (ratB (valB (xL x[j] x[j + 1]) t) && ratB (valB (yL x[j] x[j + 1]) t)) <;> rfl

theorem posS_none (x : List Stp) (t : Int × Int) (hx : isTrk x = true) (ht : ratB t = true) : ∀ (n j : Nat) (hj : j < x.length), n + (j + 1) = x.length → lessB t x[j].1 = true → posS x t n (j + 1) = ([], false)
  | 0, j, hj, hn, h => rfl
  | n + 1, j, hj, hn, h => by
    have hi : j + 1 < x.length := by omega
    have s1 := isTrk_spec hx (j + 1) hi
    have s0 := isTrk_spec hx j hj
    have hl := s1.2.2.2 j hj rfl
    have htn := less_trans ht s0.1 s1.1 h hl
    simp only [posS, List.getElem?_eq_getElem hi, List.getElem?_eq_getElem hj, eqR, less_asym ht s0.1 h, Bool.false_and, cond_false]
    have hne : decide (x[j + 1].1 = t) = false := by
      rw [decide_eq_false_iff_not]
      intro e
      rw [e, less_irr] at htn
      cases htn
    rw [hne, cond_false]
    exact posS_none x t hx ht n (j + 1) hi (by omega) htn

theorem L41_val (x : List Stp) (t : Int × Int) (hx : isTrk x = true) (ht : ratB t = true) : ∀ (n i : Nat), n + i = x.length → (∀ j (hj : j < x.length), i = j + 1 → lessB x[j].1 t = true) → L41_4 x t x (x.length : Int) (i : Int) = ptR (posS x t n i)
  | 0, i, hn, _ => by
    rw [L41_4_eq]
    have : decide ((i : Int) < (x.length : Int)) = false := by simp; omega
    rw [this, cond_false]
    rfl
  | n + 1, i, hn, hinv => by
    have hl := isTrk_len hx
    rw [L41_4_eq]
    have hi : i < x.length := by omega
    have : decide ((i : Int) < (x.length : Int)) = true := by simp; omega
    have s1 := isTrk_spec hx i hi
    rw [this, cond_true, getI_ok hi]
    simp only [Option.bind_some, cmp_val ht s1.1, posS, List.getElem?_eq_getElem hi, eqR]
    by_cases he : x[i].1 = t
    · simp only [he, less_irr, cond_false, decide_true, cond_true]
      rfl
    · simp only [he, decide_false, cond_false]
      cases h0 : lessB t x[i].1 with
      | true =>
        have c1 : ((-1 : Int) == 0) = false := rfl
        have c2 : decide ((-1 : Int) > 0) = false := rfl
        simp only [cond_true, c1, c2, cond_false]
        cases i with
        | zero =>
          simp only
          rw [posS_none x t hx ht n 0 hi (by omega) h0]
          rfl
        | succ j =>
          have c3 : (((j + 1 : Nat) : Int) == 0) = false := by
            rw [beq_eq_false_iff_ne]
            omega
          rw [c3, cond_false, show IntKind.i64.wrap (((j + 1 : Nat) : Int) - 1) = ((j : Nat) : Int) by rw [wrap_id] <;> omega, getI_ok (by omega)]
          simp only [Option.bind_some, S87_val, List.getElem?_eq_getElem (show j < x.length by omega), hinv j (by omega) rfl, Bool.and_self, cond_true]
          unfold ptB
          cases hk : legOk x[j] x[j + 1] with
          | false => rfl
          | true =>
            simp only [Bool.not_true, cond_false, S88_val, S66_val, Option.bind_some]
            change ((S89 [valB (xL x[j] x[j + 1]) t, valB (yL x[j] x[j + 1]) t] 2).bind _) = _
            rw [S89_two]
            simp only [Option.bind_some]
            change (bif !(ratB (valB (xL x[j] x[j + 1]) t) && ratB (valB (yL x[j] x[j + 1]) t)) then _ else some (([valB (xL x[j] x[j + 1]) t, valB (yL x[j] x[j + 1]) t], true, ()), ())) = _
            cases (ratB (valB (xL x[j] x[j + 1]) t) && ratB (valB (yL x[j] x[j + 1]) t)) <;> rfl
      | false =>
        have h1 : lessB x[i].1 t = true := by
          cases h1 : lessB x[i].1 t with
          | true => rfl
          | false => exact absurd (less_tri s1.1 ht h1 h0) he
        have c1 : ((1 : Int) == 0) = false := rfl
        have c2 : decide ((1 : Int) > 0) = true := rfl
        simp only [h1, cond_true, cond_false, c1, c2]
        rw [show IntKind.i64.wrap ((i : Int) + 1) = ((i + 1 : Nat) : Int) by rw [wrap_id] <;> omega,
          L41_val x t hx ht n (i + 1) (by omega) (fun j hj e => by
            have : j = i := by omega
            subst this
            exact h1)]
        cases i with
        | zero => rfl
        | succ j =>
          simp only [List.getElem?_eq_getElem (show j < x.length by omega), Bool.and_false, cond_false]

def posB (x : List Stp) (t : Int × Int) : Pt × Bool := bif isTrk x && ratB t then posS x t x.length 0 else ([], false)
theorem S43_val (x : List Stp) (t : Int × Int) (hl : x.length ≤ 1048576) : S43 x t = ptR (posB x t) := by
  rw [S43_eq, S14_val x hl, S60_val]
  unfold posB
  simp only [Option.bind_some]
  cases hx : isTrk x with
  | false => rfl
  | true =>
    cases ht : ratB t with
    | false => rfl
    | true => exact L43_val x t (isTrk_len hx).2 x.length 0 (by omega)
theorem S41_val (x : List Stp) (t : Int × Int) (hl : x.length ≤ 1048576) : S41 x t = ptR (posB x t) := by
  rw [S41_eq, S16_val x hl, S64_val]
  unfold posB
  simp only [Option.bind_some]
  cases hx : isTrk x with
  | false => rfl
  | true =>
    cases ht : ratB t with
    | false => rfl
    | true => exact L41_val x t hx ht x.length 0 (by omega) (fun j _ e => by omega)
theorem posS_len (x : List Stp) (t : Int × Int) : ∀ (n i : Nat), (posS x t n i).1.length ≤ 2 ∧ ((posS x t n i).2 = true → (posS x t n i).1.length = 2)
  | 0, i => by simp [posS]
  | n + 1, i => by
    simp only [posS]
    split
    · simp
    · rename_i s _
      cases (s.1.1 == t.1 && s.1.2 == t.2)
      · simp only [cond_false]
        split
        · exact posS_len x t n 1
        · split
          · simp
          · rename_i p _
            cases (lessB p.1 t && lessB t s.1)
            · exact posS_len x t n _
            · simp only [cond_true, ptB]
              cases (legOk p s && (ratB (valB (xL p s) t) && ratB (valB (yL p s) t))) <;> simp
      · simp
theorem posB_len (x : List Stp) (t : Int × Int) : (posB x t).1.length ≤ 2 ∧ ((posB x t).2 = true → (posB x t).1.length = 2 ∧ isTrk x = true ∧ ratB t = true) := by
  unfold posB
  cases hx : isTrk x <;> cases ht : ratB t <;> simp
  exact posS_len x t x.length 0

/-! ### rows of ratios: the same, marked, held -/
theorem L44_val (x : Pt) (hl : x.length ≤ 1048576) : ∀ (n i : Nat), n + i = x.length → L44_4 x x (i : Int) = some ((true, ()), ())
  | 0, i, hn => by
    rw [L44_4_eq]
    have : decide ((i : Int) < (x.length : Int)) = false := by simp; omega
    rw [this, cond_false]
  | n + 1, i, hn => by
    rw [L44_4_eq]
    have : decide ((i : Int) < (x.length : Int)) = true := by simp; omega
    rw [this, cond_true, getI_ok (by omega)]
    simp only [Option.bind_some, S27_val, Bool.not_true, cond_false]
    rw [show IntKind.i64.wrap ((i : Int) + 1) = ((i + 1 : Nat) : Int) by rw [wrap_id] <;> omega]
    exact L44_val x hl n (i + 1) (by omega)
theorem S44_val (x : Pt) (hl : x.length ≤ 1048576) : S44 x x = some ((true, ()), ()) := by
  rw [S44_eq]
  have : ((x.length : Int) != (x.length : Int)) = false := by simp
  rw [this, cond_false]
  exact L44_val x hl x.length 0 (by omega)

def mkP : Nat → Int → Pt
  | 0, _ => []
  | n + 1, k => (k, k + 1) :: mkP n (k + 2)
theorem mkP_len : ∀ (n : Nat) (k : Int), (mkP n k).length = n
  | 0, _ => rfl
  | n + 1, k => by simp [mkP, mkP_len n]
theorem mkP_get : ∀ (n : Nat) (k : Int) (i : Nat) (h : i < (mkP n k).length), (mkP n k)[i] = (k + 2 * i, k + 2 * i + 1)
  | 0, _, i, h => absurd h (by simp [mkP])
  | n + 1, k, 0, h => by simp [mkP]
  | n + 1, k, i + 1, h => by
    simp only [mkP, List.getElem_cons_succ]
    rw [mkP_get n (k + 2) i (by simpa [mkP] using h)]
    simp only [Prod.mk.injEq]
    omega
theorem L45_val : ∀ (n i : Nat) (x : Pt) (k : Int), n + i = x.length → x.length ≤ 1048576 → 0 ≤ k → k + 2 * n ≤ 1000000000 →
    L45_2 x k (i : Int) = some ((k + 2 * n, ()), x.take i ++ mkP n k, ())
  | 0, i, x, k, hn, hl, h0, hk => by
    rw [L45_2_eq]
    have : decide ((i : Int) < (x.length : Int)) = false := by simp; omega
    rw [this, cond_false, List.take_of_length_le (by omega)]
    simp [mkP]
  | n + 1, i, x, k, hn, hl, h0, hk => by
    rw [L45_2_eq]
    have hi : i < x.length := by omega
    have : decide ((i : Int) < (x.length : Int)) = true := by simp; omega
    have w1 : IntKind.i64.wrap (k + 1) = k + 1 := wrap_id (by omega) (by omega)
    have w2 : IntKind.i64.wrap (k + 1 + 1) = k + 2 := by rw [wrap_id (by omega) (by omega)]; omega
    have w7 : IntKind.i64.wrap ((i : Int) + 1) = ((i + 1 : Nat) : Int) := by rw [wrap_id] <;> omega
    rw [this, cond_true, getI_ok hi]
    simp only [Option.bind_some, set_nat, List.set_set, getI_set hi, w1, w2, w7]
    rw [L45_val n (i + 1) _ (k + 2) (by simp; omega) (by simpa using hl) (by omega) (by omega)]
    have e1 : (x.set i (k, k + 1)).take (i + 1) = x.take i ++ [(k, k + 1)] := by
      rw [List.take_add_one, List.take_set_of_le (by omega)]
      simp [hi]
    rw [e1, List.append_assoc]
    congr 3
    omega
theorem S45_val {x : Pt} {k : Int} (hl : x.length ≤ 1048576) (h0 : 0 ≤ k) (hk : k + 2 * x.length ≤ 1000000000) : S45 x k = some ((k + 2 * x.length, ()), mkP x.length k, ()) := by
  rw [S45_eq]
  exact L45_val x.length 0 x k (by omega) hl h0 hk
theorem L46_val : ∀ (n i : Nat) (m : Nat) (k : Int), n + i = m → m ≤ 1048576 → 0 ≤ k → k + 2 * m ≤ 1000000000 → L46_2 (mkP m k) (k + 2 * i) (i : Int) = some ((k + 2 * m, ()), ())
  | 0, i, m, k, hn, hl, h0, hk => by
    rw [L46_2_eq]
    have : decide ((i : Int) < ((mkP m k).length : Int)) = false := by rw [mkP_len]; simp; omega
    rw [this, cond_false]
    congr 3; omega
  | n + 1, i, m, k, hn, hl, h0, hk => by
    rw [L46_2_eq]
    have hi : i < (mkP m k).length := by rw [mkP_len]; omega
    have : decide ((i : Int) < ((mkP m k).length : Int)) = true := by rw [mkP_len]; simp; omega
    rw [this, cond_true, getI_ok hi, mkP_get]
    generalize hq : k + 2 * (i : Int) = q
    have w1 : IntKind.i64.wrap (q + 1) = q + 1 := wrap_id (by omega) (by omega)
    have w2 : IntKind.i64.wrap (q + 1 + 1) = q + 2 := by rw [wrap_id (by omega) (by omega)]; omega
    have w7 : IntKind.i64.wrap ((i : Int) + 1) = ((i + 1 : Nat) : Int) := by rw [wrap_id] <;> omega
    simp only [Option.bind_some, w1, w2, w7, bne_self_eq_false, cond_false]
    have e1 : q + 2 = k + 2 * ((i + 1 : Nat) : Int) := by omega
    rw [e1]
    exact L46_val n (i + 1) m k (by omega) hl h0 hk
theorem S46_val {m : Nat} {k : Int} (hl : m ≤ 1048576) (h0 : 0 ≤ k) (hk : k + 2 * m ≤ 1000000000) : S46 (mkP m k) k = some ((k + 2 * m, ()), ()) := by
  rw [S46_eq]
  have := L46_val m 0 m k (by omega) hl h0 hk
  simpa using this

theorem law9 (a : List Stp) (t : Int × Int) (ha : a.length ≤ maxLen) : S9 a t = some ((true, ()), ()) := by
  have hm : maxLen = 9223372036854775807 := by decide
  rw [hm] at ha
  rw [S9_eq]
  obtain ⟨m, h1, h2⟩ := S13_val a 1048576 (by omega) (by omega) (by omega)
  rw [h1]
  simp only [Option.bind_some]
  by_cases hm0 : m < 0
  · simp [hm0]
  obtain ⟨c1, c2, c3⟩ := h2.resolve_left hm0
  simp only [hm0, decide_false, cond_false]
  have la : a.length ≤ 1048576 := by omega
  have hr0 := (posB_len a t).1
  simp only [S15_val a la, S23_val, Option.bind_some, S43_val a t la, S41_val a t la, ptR]
  generalize (posB a t).1 = r at hr0 ⊢
  generalize (posB a t).2 = ok
  have hr : r.length ≤ 1048576 := by omega
  have hok : (!(ok == ok)) = false := by cases ok <;> rfl
  simp only [S44_val r hr, S17_val a la, Option.bind_some, Bool.not_true, cond_false]
  rw [S20_val la (by omega) (by omega)]
  simp only [Option.bind_some]
  rw [S45_val (k := 1) hr (by omega) (by omega)]
  simp only [Option.bind_some]
  rw [S46_val hr (by omega) (by omega)]
  have hk : decide (1 + 6 * (a.length : Int) < 0) = false := by simp; omega
  have hk2 : decide (1 + 2 * (r.length : Int) < 0) = false := by simp; omega
  simp only [Option.bind_some, hok, cond_false, hk, hk2, bne_self_eq_false]
end Go.Proofs.Ytdfcejijcnhcaaa.B.It
