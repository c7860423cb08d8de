/- A part of the proof: It6. No conditions. -/
import Derived.Test.YtdfcejijcnhcaaaBIt5
set_option linter.unusedVariables false
set_option linter.unusedSimpArgs false
namespace Go.Proofs.Ytdfcejijcnhcaaa.B.It
open Am

/-! ### MoveTrack -/
def mvS (a b c : Int × Int) (s : Stp) : Stp := (addB s.1 a, addB s.2.1 b, addB s.2.2 c)
def mvEnd (y : List Stp) : List Stp × Bool := bif !isTrk y then ([], false) else (y, true)

theorem mvEnd_len (y : List Stp) : (mvEnd y).1.length ≤ y.length := by
  unfold mvEnd
  cases isTrk y <;> simp

theorem L22_val (x : List Stp) (a b c : Int × Int) (hx : isTrk x = true) : ∀ (n i : Nat) (y : List Stp), n + i = x.length → y.length = i → L22_3 x a b c y (i : Int) = some (((mvEnd (y ++ (x.drop i).map (mvS a b c))).1, (mvEnd (y ++ (x.drop i).map (mvS a b c))).2, ()), ())
  | 0, i, y, hn, hy => by
    have hl := isTrk_len hx
    rw [L22_3_eq]
    have : decide ((i : Int) < (x.length : Int)) = false := by simp; omega
    rw [this, cond_false, S14_val y (by omega), List.drop_eq_nil_of_le (by omega)]
    simp only [Option.bind_some, List.map_nil, List.append_nil, mvEnd]
    cases isTrk y <;> rfl
  | n + 1, i, y, hn, hy => by
    have hl := isTrk_len hx
    rw [L22_3_eq]
    have hi : i < x.length := by omega
    have : decide ((i : Int) < (x.length : Int)) = true := by simp; omega
    rw [this, cond_true, S14_val x (by omega), hx, getI_ok hi]
    simp only [Option.bind_some, cond_true, S42_val]
    have hd : decide ((y.length + [(addB x[i].fst a, addB x[i].snd.fst b, addB x[i].snd.snd c)].length) * 48 ≤ 140737488355328) = true := by simp; omega
    rw [hd, cond_true, show IntKind.i64.wrap ((i : Int) + 1) = ((i + 1 : Nat) : Int) by rw [wrap_id] <;> omega, L22_val x a b c hx n (i + 1) _ (by omega) (by simp; omega)]
    rw [List.drop_eq_getElem_cons hi, List.map_cons, List.append_assoc]
    rfl

theorem L24_val (x : List Stp) (a b c : Int × Int) (hl : x.length ≤ 6) : ∀ (n i : Nat) (y : List Stp), n + i = x.length → y.length = i → L24_5 x a b c y x (x.length : Int) (i : Int) = some (((mvEnd (y ++ (x.drop i).map (mvS a b c))).1, (mvEnd (y ++ (x.drop i).map (mvS a b c))).2, ()), ())
  | 0, i, y, hn, hy => by
    rw [L24_5_eq]
    have : decide ((i : Int) < (x.length : Int)) = false := by simp; omega
    rw [this, cond_false, S16_val y (by omega), List.drop_eq_nil_of_le (by omega)]
    simp only [Option.bind_some, List.map_nil, List.append_nil, mvEnd]
    cases isTrk y <;> rfl
  | n + 1, i, y, hn, hy => by
    rw [L24_5_eq]
    have hi : i < x.length := by omega
    have : decide ((i : Int) < (x.length : Int)) = true := by simp; omega
    rw [this, cond_true, getI_ok hi]
    simp only [Option.bind_some, S66_val]
    have hd : decide ((y.length + [(addB x[i].fst a, addB x[i].snd.fst b, addB x[i].snd.snd c)].length) * 48 ≤ 140737488355328) = true := by simp; omega
    rw [hd, cond_true, show IntKind.i64.wrap ((i : Int) + 1) = ((i + 1 : Nat) : Int) by rw [wrap_id] <;> omega, L24_val x a b c hl n (i + 1) _ (by omega) (by simp; omega)]
    rw [List.drop_eq_getElem_cons hi, List.map_cons, List.append_assoc]
    rfl

theorem move_same (x : List Stp) (a b c : Int × Int) (hl : x.length ≤ 1048576) : ∃ r ok, S22 x a b c = some ((r, ok, ()), ()) ∧ S24 x a b c = some ((r, ok, ()), ()) ∧ r.length ≤ 6 := by
  rw [S22_eq, S24_eq, S16_val x hl]
  simp only [Option.bind_some]
  cases hx : isTrk x with
  | true =>
    have hn := isTrk_len hx
    refine ⟨_, _, L22_val x a b c hx x.length 0 [] (by omega) rfl, ?_, ?_⟩
    · simp only [Bool.not_true, cond_false]
      exact L24_val x a b c (by omega) x.length 0 [] (by omega) rfl
    · refine Nat.le_trans (mvEnd_len _) ?_
      simp; omega
  | false =>
    refine ⟨[], false, ?_, rfl, by simp⟩
    rw [L22_3_eq]
    have he : S14 ([] : List Stp) = some ((false, ()), ()) := by rw [S14_val [] (by simp)]; rfl
    cases decide ((0 : Int) < (x.length : Int)) with
    | true => simp [S14_val x hl, hx, he]
    | false => simp [he]

/-- The tail of a law with one track argument: its result, read again and again. -/
theorem law5 (a : List Stp) (t x y : Int × Int) (ha : a.length ≤ maxLen) : S5 a t x y = some ((true, ()), ()) := by
  have hm : maxLen = 9223372036854775807 := by decide
  rw [hm] at ha
  rw [S5_eq]
  obtain ⟨m, h1, h2⟩ := S13_val a 1048576 (by omega) (by omega) (by omega)
  rw [h1]
  simp only [Option.bind_some]
  by_cases hm0 : m < 0
  · simp [hm0]
  obtain ⟨c1, c2, c3⟩ := h2.resolve_left hm0
  simp only [hm0, decide_false, cond_false]
  have la : a.length ≤ 1048576 := by omega
  obtain ⟨r, ok, j1, j2, j3⟩ := move_same a t x y la
  have hr : r.length ≤ 1048576 := by omega
  simp only [S15_val a la, S23_val, Option.bind_some, j1, j2, S17_val r hr, S17_val a la, Bool.not_true, cond_false]
  have hok : (!(ok == ok)) = false := by cases ok <;> rfl
  rw [S20_val la (by omega) (by omega)]
  simp only [Option.bind_some]
  rw [S20_val (k := 1) hr (by omega) (by omega)]
  simp only [Option.bind_some]
  rw [S21_val hr (by omega) (by omega)]
  have hk : decide (1 + 6 * (a.length : Int) < 0) = false := by simp; omega
  have hk2 : decide (1 + 6 * (r.length : Int) < 0) = false := by simp; omega
  simp only [Option.bind_some, hok, cond_false, hk, hk2, bne_self_eq_false]

/-! ### more of ratios -/
def negB (a : Int × Int) : Int × Int := bif ratB a then (-a.1, a.2) else (0, 0)
theorem S69_val (a : Int × Int) : S69 a = some ((negB a, ()), ()) := by
  rw [S69_eq, S60_val]
  unfold negB
  cases ha : ratB a <;> simp only [Option.bind_some, Bool.not_true, Bool.not_false, cond_true, cond_false]
  · rfl
  obtain ⟨a1, a2, _⟩ := rat_bd ha
  rw [wrap_id (by omega) (by omega), Int.zero_sub]
theorem S139_val (a : Int × Int) : S139 a = some ((negB a, ()), ()) := by
  rw [S139_eq, S64_val]
  unfold negB
  cases ha : ratB a <;> simp only [Option.bind_some, Bool.not_true, Bool.not_false, cond_true, cond_false]
  · rfl
  obtain ⟨a1, a2, _⟩ := rat_bd ha
  rw [wrap_id (by omega) (by omega), Int.zero_sub]
theorem S134_val (a b : Int × Int) : S134 a b = some ((addB a (negB b), ()), ()) := by
  rw [S134_eq, S139_val]
  simp only [Option.bind_some, S66_val]
def divB (a b : Int × Int) : Int × Int := bif ratB a && ratB b then (bif b.1 == 0 then (0, 0) else redB (a.1 * b.2) (a.2 * b.1)) else (0, 0)
theorem S132_val (a b : Int × Int) : S132 a b = some ((divB a b, ()), ()) := by
  rw [S132_eq, S60_val, S60_val]
  unfold divB
  cases ha : ratB a <;> cases hb : ratB b <;> simp only [Option.bind_some, Bool.not_true, Bool.not_false, cond_true, cond_false, Bool.and_true, Bool.and_false, Bool.and_self]
  · rfl
  · rfl
  · rfl
  obtain ⟨a1, a2, _⟩ := rat_bd ha
  obtain ⟨b1, b2, _⟩ := rat_bd hb
  have e1 := prod_bd a1 b2
  have e3 := prod_bd a2 b1
  cases (b.1 == 0)
  · rw [cond_false, cond_false, wrap_prod a1 b2, wrap_prod a2 b1, S90_val (by omega) (by omega)]
    rfl
  · rfl
theorem S133_val (a b : Int × Int) : S133 a b = some ((divB a b, ()), ()) := by
  rw [S133_eq, S64_val, S64_val]
  unfold divB
  cases ha : ratB a <;> cases hb : ratB b <;> simp only [Option.bind_some, Bool.not_true, Bool.not_false, cond_true, cond_false, Bool.and_true, Bool.and_false, Bool.and_self]
  · rfl
  · rfl
  · rfl
  obtain ⟨a1, a2, _⟩ := rat_bd ha
  obtain ⟨b1, b2, _⟩ := rat_bd hb
  have e1 := prod_bd a1 b2
  have e3 := prod_bd a2 b1
  cases (b.1 == 0)
  · rw [cond_false, cond_false, wrap_prod a1 b2, wrap_prod a2 b1, S107_val (by omega) (by omega)]
    rfl
  · rfl
def mulB (a b : Int × Int) : Int × Int := bif ratB a && ratB b then redB (a.1 * b.1) (a.2 * b.2) else (0, 0)
theorem S125_val (a b : Int × Int) : S125 a b = some ((mulB a b, ()), ()) := by
  rw [S125_eq, S60_val, S60_val]
  unfold mulB
  cases ha : ratB a <;> cases hb : ratB b <;> simp only [Option.bind_some, Bool.not_true, Bool.not_false, cond_true, cond_false, Bool.and_true, Bool.and_false, Bool.and_self]
  · rfl
  · rfl
  · rfl
  obtain ⟨a1, a2, _⟩ := rat_bd ha
  obtain ⟨b1, b2, _⟩ := rat_bd hb
  have e1 := prod_bd a1 b1
  have e3 := prod_bd a2 b2
  rw [wrap_prod a1 b1, wrap_prod a2 b2, S90_val (by omega) (by omega)]
  rfl
theorem S88_val (a b : Int × Int) : S88 a b = some ((mulB a b, ()), ()) := by
  rw [S88_eq, S64_val, S64_val]
  unfold mulB
  cases ha : ratB a <;> cases hb : ratB b <;> simp only [Option.bind_some, Bool.not_true, Bool.not_false, cond_true, cond_false, Bool.and_true, Bool.and_false, Bool.and_self]
  · rfl
  · rfl
  · rfl
  obtain ⟨a1, a2, _⟩ := rat_bd ha
  obtain ⟨b1, b2, _⟩ := rat_bd hb
  have e1 := prod_bd a1 b1
  have e3 := prod_bd a2 b2
  rw [wrap_prod a1 b1, wrap_prod a2 b2, S107_val (by omega) (by omega)]
  rfl

/-! ### legs -/
abbrev Lin := (Int × Int) × Int × Int
/-- The line from a at t to b at u. -/
def linB (t a u b : Int × Int) : Lin := (divB (addB b (negB a)) (addB u (negB t)), addB a (negB (mulB (divB (addB b (negB a)) (addB u (negB t))) t)))
theorem S108_val (t a u b : Int × Int) : S108 t a u b = some ((linB t a u b, ()), ()) := by
  rw [S108_eq]
  simp only [S69_val, S42_val, S132_val, S125_val, Option.bind_some]
  rfl
theorem S122_val (a t b u : Int × Int) : S122 a t b u = some ((linB t a u b, ()), ()) := by
  rw [S122_eq]
  simp only [S134_val, S133_val, S88_val, Option.bind_some]
  rfl
def linOk (l : Lin) : Bool := ratB l.1 && ratB l.2
theorem S123_val (l : Lin) : S123 l = some ((linOk l, ()), ()) := by
  rw [S123_eq, S64_val]
  simp only [Option.bind_some, S64_val]
  unfold linOk
  cases ratB l.1 <;> rfl
def xL (a b : Stp) : Lin := linB a.1 a.2.1 b.1 b.2.1
def yL (a b : Stp) : Lin := linB a.1 a.2.2 b.1 b.2.2
def legOk (a b : Stp) : Bool := linOk (xL a b) && linOk (yL a b)
theorem S68_val (a b : Stp) : S68 a b = some ((xL a b, yL a b, legOk a b, ()), ()) := by
  rw [S68_eq]
  simp only [S108_val, S60_val, Option.bind_some]
  unfold legOk linOk
  show (bif ratB (xL a b).1 then _ else _) = _
  change (bif ratB (xL a b).1 then (bif ratB (xL a b).2 then (bif ratB (yL a b).1 then some ((xL a b, yL a b, ratB (yL a b).2, ()), ()) else some ((xL a b, yL a b, false, ()), ())) else some ((xL a b, yL a b, false, ()), ())) else some ((xL a b, yL a b, false, ()), ())) = _
  cases ratB (xL a b).1 <;> cases ratB (xL a b).2 <;> cases ratB (yL a b).1 <;> rfl
abbrev Leg := (Int × Int) × (Int × Int) × Lin × Lin
def legOf (a b : Stp) : Leg := (a.1, b.1, xL a b, yL a b)
theorem S87_val (a b : Stp) : S87 a b = some ((legOf a b, legOk a b, ()), ()) := by
  rw [S87_eq]
  simp only [S122_val, S123_val, Option.bind_some]
  unfold legOk
  change (bif linOk (xL a b) then some ((legOf a b, linOk (yL a b), ()), ()) else some ((legOf a b, false, ()), ())) = _
  cases linOk (xL a b) <;> rfl

/-! ### SpeedOf -/
def absR (r : Int × Int) : Int × Int := ((r.1.natAbs : Int), r.2)
theorem ratB_abs {r : Int × Int} (h : ratB r = true) : ratB (absR r) = true := by
  have hb := rat_bd h
  have e1 : numB ((r.1.natAbs : Nat) : Int) = true := by
    simp only [numB, Bool.and_eq_true, decide_eq_true_eq]
    omega
  have e2 : numB r.1 = true := by
    simp only [numB, Bool.and_eq_true, decide_eq_true_eq]
    omega
  simp only [ratB, absR, gcdB, e1, e2, Int.natAbs_natCast] at h ⊢
  exact h
theorem ratB_zero : ratB (0, 1) = true := by decide
/-- The greater of two. -/
def gtB (v r : Int × Int) : Int × Int := bif lessB v (absR r) then absR r else v
theorem gtB_rat {v r : Int × Int} (hv : ratB v = true) (hr : ratB r = true) : ratB (gtB v r) = true := by
  unfold gtB
  cases lessB v (absR r)
  · exact hv
  · exact ratB_abs hr
theorem cmp_gt {a b : Int × Int} (ha : ratB a = true) (hb : ratB b = true) : ∃ c, S51 a b = some ((c, ()), ()) ∧ decide (c > 0) = lessB b a := by
  rw [S51_eq, S64_val, S64_val]
  simp only [Option.bind_some, ha, hb, Bool.not_true, cond_false]
  unfold lessB
  by_cases h1 : IntKind.i64.wrap (a.1 * b.2) < IntKind.i64.wrap (b.1 * a.2)
  · refine ⟨-1, by simp [h1], ?_⟩
    have : ¬ IntKind.i64.wrap (b.1 * a.2) < IntKind.i64.wrap (a.1 * b.2) := by omega
    simp [this]
  · by_cases h2 : IntKind.i64.wrap (b.1 * a.2) < IntKind.i64.wrap (a.1 * b.2)
    · exact ⟨1, by simp [h1, h2], by simp [h2]⟩
    · exact ⟨0, by simp [h1, h2], by simp [h2]⟩
theorem spec_step {v r : Int × Int} (hr : ratB r = true) {R : Type} (k : Int × Int → Option R) :
    (bif decide (r.1 < 0) then (S69 r).bind fun (y : ((Int × Int) × PUnit) × PUnit) => (S61 v y.fst.fst).bind fun (y_1 : (Bool × PUnit) × PUnit) => bif y_1.fst.fst then k y.fst.fst else k v
      else (S61 v r).bind fun (y_1 : (Bool × PUnit) × PUnit) => bif y_1.fst.fst then k r else k v) = k (gtB v r) := by
  unfold gtB
  by_cases h : r.1 < 0
  · have e : negB r = absR r := by
      unfold negB absR
      rw [hr, cond_true]
      congr 1; omega
    simp only [h, decide_true, cond_true, S69_val, Option.bind_some, S61_val, e]
    cases lessB v (absR r) <;> rfl
  · have e : r = absR r := by
      unfold absR
      obtain ⟨r1, r2⟩ := r
      simp only [Prod.mk.injEq, and_true]
      simp only at h
      omega
    simp only [h, decide_false, cond_false, S61_val, Option.bind_some]
    rw [← e]
    cases lessB v r <;> rfl
theorem impl_step {v r : Int × Int} (hv : ratB v = true) (hr : ratB r = true) {R : Type} (k : Int × Int → Option R) :
    ((S71 r.1).bind fun (y_1 : (Int × PUnit) × PUnit) => (S51 (y_1.fst.fst, r.2) v).bind fun (y_2 : (Int × PUnit) × PUnit) => bif decide (y_2.fst.fst > 0) then k (y_1.fst.fst, r.2) else k v) = k (gtB v r) := by
  obtain ⟨a1, a2, _⟩ := rat_bd hr
  rw [abs71 (by omega)]
  simp only [Option.bind_some]
  obtain ⟨c, h1, h2⟩ := cmp_gt (ratB_abs hr) hv
  unfold absR at h1
  rw [h1]
  simp only [Option.bind_some, h2]
  unfold gtB absR
  cases lessB v ((r.1.natAbs : Int), r.2) <;> rfl

theorem L25_11_val (x : List Stp) (z v p q : Int × Int) (i : Int) (hp : ratB p = true) (hq : ratB q = true) : L25_11 x z v i [p, q] 2 0 = L25_5 x z (gtB (gtB v p) q) (IntKind.i64.wrap (i + 1)) := by
  have g0 : getI [p, q] 0 = some p := rfl
  have g1 : getI [p, q] 1 = some q := rfl
  have w0 : IntKind.i64.wrap (0 + 1) = 1 := by decide
  have w1 : IntKind.i64.wrap (1 + 1) = 2 := by decide
  rw [L25_11_eq]
  simp only [show decide ((0 : Int) < 2) = true from rfl, cond_true, g0, Option.bind_some, w0]
  rw [spec_step hp (fun u => L25_11 x z u i [p, q] 2 1), L25_11_eq]
  simp only [show decide ((1 : Int) < 2) = true from rfl, cond_true, g1, Option.bind_some, w1]
  rw [spec_step hq (fun u => L25_11 x z u i [p, q] 2 2), L25_11_eq]
  simp only [show decide ((2 : Int) < 2) = false from rfl, cond_false]
theorem L26_9_val (z v p q : Int × Int) (l : List Leg) (m i : Int) (hv : ratB v = true) (hp : ratB p = true) (hq : ratB q = true) : L26_9 z l v m i [p, q] 2 0 = L26_6 z l (gtB (gtB v p) q) m (IntKind.i64.wrap (i + 1)) := by
  have g0 : getI [p, q] 0 = some p := rfl
  have g1 : getI [p, q] 1 = some q := rfl
  have w0 : IntKind.i64.wrap (0 + 1) = 1 := by decide
  have w1 : IntKind.i64.wrap (1 + 1) = 2 := by decide
  rw [L26_9_eq]
  simp only [show decide ((0 : Int) < 2) = true from rfl, cond_true, g0, Option.bind_some, w0]
  rw [impl_step hv hp (fun u => L26_9 z l u m i [p, q] 2 1), L26_9_eq]
  simp only [show decide ((1 : Int) < 2) = true from rfl, cond_true, g1, Option.bind_some, w1]
  rw [impl_step (gtB_rat hv hp) hq (fun u => L26_9 z l u m i [p, q] 2 2), L26_9_eq]
  simp only [show decide ((2 : Int) < 2) = false from rfl, cond_false]

/-- The greatest speed of the legs from stop i on. -/
def spd (x : List Stp) : Nat → Nat → (Int × Int) → Option (Int × Int)
  | 0, _, v => some v
  | n + 1, i, v => match x[i - 1]?, x[i]? with
    | some a, some b => bif legOk a b then spd x n (i + 1) (gtB (gtB v (xL a b).1) (yL a b).1) else none
    | _, _ => none
def spdR : Option (Int × Int) → Option (((Int × Int) × Bool × PUnit) × PUnit)
  | some v => some ((v, true, ()), ())
  | none => some (((0, 0), false, ()), ())

theorem L25_5_val (x : List Stp) (z : Int × Int) (hl : x.length ≤ 6) : ∀ (n i : Nat) (v : Int × Int), n + i = x.length → 1 ≤ i → L25_5 x z v (i : Int) = spdR (spd x n i v)
  | 0, i, v, hn, h1 => by
    rw [L25_5_eq]
    have : decide ((i : Int) < (x.length : Int)) = false := by simp; omega
    rw [this, cond_false]
    rfl
  | n + 1, i, v, hn, h1 => by
    rw [L25_5_eq]
    have hi : i < x.length := by omega
    have : decide ((i : Int) < (x.length : Int)) = true := by simp; omega
    rw [this, cond_true, show IntKind.i64.wrap ((i : Int) - 1) = ((i - 1 : Nat) : Int) by rw [wrap_id] <;> omega, getI_ok (by omega), getI_ok hi]
    simp only [Option.bind_some, S68_val, spd, List.getElem?_eq_getElem hi, List.getElem?_eq_getElem (show i - 1 < x.length by omega)]
    cases hk : legOk x[i - 1] x[i] with
    | false => rfl
    | true =>
      simp only [legOk, linOk, Bool.and_eq_true] at hk
      simp only [Bool.not_true, cond_false, cond_true]
      rw [show ((([(xL x[i - 1] x[i]).1, (yL x[i - 1] x[i]).1] : List (Int × Int)).length : Nat) : Int) = 2 from rfl, L25_11_val _ _ _ _ _ _ hk.1.1 hk.2.1,
        show IntKind.i64.wrap ((i : Int) + 1) = ((i + 1 : Nat) : Int) by rw [wrap_id] <;> omega]
      exact L25_5_val x z hl n (i + 1) _ (by omega) (by omega)

/-- The legs, or none. -/
def legsB (x : List Stp) : Nat → Nat → List Leg → Option (List Leg)
  | 0, _, l => some l
  | n + 1, i, l => match x[i - 1]?, x[i]? with
    | some a, some b => bif legOk a b then legsB x n (i + 1) (l ++ [legOf a b]) else none
    | _, _ => none
def legsR : Option (List Leg) → Option ((List Leg × Bool × PUnit) × PUnit)
  | some v => some ((v, true, ()), ())
  | none => some (([], false, ()), ())
theorem L70_val (x : List Stp) (hl : x.length ≤ 6) : ∀ (n i : Nat) (l : List Leg), n + i = x.length → 1 ≤ i → l.length + 1 = i → L70_8 x l (i : Int) = legsR (legsB x n i l)
  | 0, i, v, hn, h1, hv => by
    rw [L70_8_eq]
    have : decide ((i : Int) < (x.length : Int)) = false := by simp; omega
    rw [this, cond_false]
    rfl
  | n + 1, i, v, hn, h1, hv => by
    rw [L70_8_eq]
    have hi : i < x.length := by omega
    have : decide ((i : Int) < (x.length : Int)) = true := by simp; omega
    rw [this, cond_true, show IntKind.i64.wrap ((i : Int) - 1) = ((i - 1 : Nat) : Int) by rw [wrap_id] <;> omega, getI_ok (by omega), getI_ok hi]
    simp only [Option.bind_some, S87_val, legsB, List.getElem?_eq_getElem hi, List.getElem?_eq_getElem (show i - 1 < x.length by omega)]
    cases hk : legOk x[i - 1] x[i] with
    | false => rfl
    | true =>
      simp only [Bool.not_true, cond_false, cond_true]
      have hd : decide ((v.length + [legOf x[i - 1] x[i]].length) * 96 ≤ 140737488355328) = true := by simp; omega
      rw [hd, cond_true, show IntKind.i64.wrap ((i : Int) + 1) = ((i + 1 : Nat) : Int) by rw [wrap_id] <;> omega]
      exact L70_val x hl n (i + 1) _ (by omega) (by omega) (by simp; omega)

theorem legsB_len (x : List Stp) : ∀ (n i : Nat) (l r : List Leg), legsB x n i l = some r → r.length = l.length + n
  | 0, i, l, r, h => by
    simp only [legsB, Option.some.injEq] at h
    subst h; rfl
  | n + 1, i, l, r, h => by
    simp only [legsB] at h
    split at h
    · rename_i a b ha hb
      cases hk : legOk a b with
      | false => rw [hk] at h; cases h
      | true =>
        rw [hk] at h
        have := legsB_len x n (i + 1) _ r h
        simp at this
        omega
    · cases h

def spdL : List Leg → (Int × Int) → Int × Int
  | [], v => v
  | l :: ls, v => spdL ls (gtB (gtB v l.2.2.1.1) l.2.2.2.1)
def legsGood (l : List Leg) : Prop := ∀ g ∈ l, linOk g.2.2.1 = true ∧ linOk g.2.2.2 = true
theorem legsB_good (x : List Stp) : ∀ (n i : Nat) (l r : List Leg), legsGood l → legsB x n i l = some r → legsGood r
  | 0, i, l, r, hg, h => by
    simp only [legsB, Option.some.injEq] at h
    subst h; exact hg
  | n + 1, i, l, r, hg, h => by
    simp only [legsB] at h
    split at h
    · rename_i a b ha hb
      cases hk : legOk a b with
      | false => rw [hk] at h; cases h
      | true =>
        rw [hk] at h
        refine legsB_good x n (i + 1) _ r (fun g hg' => ?_) h
        rcases List.mem_append.1 hg' with hg' | hg'
        · exact hg g hg'
        · rw [List.mem_singleton.1 hg']
          simpa [legOk, legOf] using hk
    · cases h

theorem L26_6_val (z : Int × Int) (l : List Leg) (hl : l.length ≤ 6) (hg : legsGood l) : ∀ (n i : Nat) (v : Int × Int), n + i = l.length → ratB v = true → L26_6 z l v (l.length : Int) (i : Int) = some ((spdL (l.drop i) v, true, ()), ())
  | 0, i, v, hn, hv => by
    rw [L26_6_eq]
    have : decide ((i : Int) < (l.length : Int)) = false := by simp; omega
    rw [this, cond_false, List.drop_eq_nil_of_le (by omega)]
    rfl
  | n + 1, i, v, hn, hv => by
    rw [L26_6_eq]
    have hi : i < l.length := by omega
    have : decide ((i : Int) < (l.length : Int)) = true := by simp; omega
    have hgi := hg l[i] (List.getElem_mem hi)
    simp only [linOk, Bool.and_eq_true] at hgi
    rw [this, cond_true, getI_ok hi]
    simp only [Option.bind_some]
    rw [show ((([l[i].2.2.1.1, l[i].2.2.2.1] : List (Int × Int)).length : Nat) : Int) = 2 from rfl, L26_9_val _ _ _ _ _ _ _ hv hgi.1.1 hgi.2.1,
      show IntKind.i64.wrap ((i : Int) + 1) = ((i + 1 : Nat) : Int) by rw [wrap_id] <;> omega,
      L26_6_val z l hl hg n (i + 1) _ (by omega) (gtB_rat (gtB_rat hv hgi.1.1) hgi.2.1), List.drop_eq_getElem_cons hi]
    rfl

theorem spd_legs (x : List Stp) : ∀ (n i : Nat) (l : List Leg) (v u : Int × Int), n + i = x.length → 1 ≤ i → v = spdL l u → spd x n i v = (legsB x n i l).map fun r => spdL r u
  | 0, i, l, v, u, hn, h1, hv => by simp [spd, legsB, hv]
  | n + 1, i, l, v, u, hn, h1, hv => by
    have hi : i < x.length := by omega
    simp only [spd, legsB, List.getElem?_eq_getElem hi, List.getElem?_eq_getElem (show i - 1 < x.length by omega)]
    cases hk : legOk x[i - 1] x[i] with
    | false => rfl
    | true =>
      simp only [cond_true]
      refine spd_legs x n (i + 1) _ _ u (by omega) (by omega) ?_
      rw [hv]
      have : ∀ (l : List Leg) (g : Leg) (u : Int × Int), spdL (l ++ [g]) u = gtB (gtB (spdL l u) g.2.2.1.1) g.2.2.2.1 := by
        intro l g
        induction l with
        | nil => intro u; rfl
        | cons a l ih => intro u; exact ih _
      rw [this]
      rfl

theorem speed_same (x : List Stp) (hl : x.length ≤ 1048576) : ∃ r ok, S25 x = some ((r, ok, ()), ()) ∧ S26 x = some ((r, ok, ()), ()) := by
  rw [S25_eq, S26_eq, S70_eq, S14_val x hl, S16_val x hl, S67_eq]
  simp only [Option.bind_some]
  cases hx : isTrk x with
  | false => exact ⟨(0, 0), false, rfl, rfl⟩
  | true =>
    have hn := isTrk_len hx
    simp only [Bool.not_true, cond_false]
    have k1 : L25_5 x ty36.zero (0, 1) 1 = spdR (spd x (x.length - 1) 1 (0, 1)) := L25_5_val x _ hn.2 (x.length - 1) 1 (0, 1) (by omega) (by omega)
    have k2 : L70_8 x [] 1 = legsR (legsB x (x.length - 1) 1 []) := L70_val x hn.2 (x.length - 1) 1 [] (by omega) (by omega) rfl
    rw [k1, spd_legs x (x.length - 1) 1 [] (0, 1) (0, 1) (by omega) (by omega) rfl]
    by_cases h1 : x.length = 1
    · have e1 : (((x.length : Nat) : Int) == 1) = true := by rw [h1]; rfl
      have g : getI x 0 = some (x[0]'(by omega)) := getI_ok (i := 0) (by omega)
      rw [e1, cond_true, g]
      simp only [Option.bind_some, Bool.not_true, cond_false]
      have hz : ratB ((0 : Int), (1 : Int)) = true := ratB_zero
      refine ⟨(0, 1), true, ?_, ?_⟩
      · rw [h1]; rfl
      · have hgt : gtB (0, 1) (0, 1) = (0, 1) := by decide
        have g0 : ∀ g : Leg, getI [g] 0 = some g := fun _ => rfl
        have hw : IntKind.i64.wrap ((0 : Int) + 1) = 1 := by decide
        rw [L26_6_eq]
        simp only [List.length_singleton, show decide ((0 : Int) < ((1 : Nat) : Int)) = true from rfl, cond_true, g0, Option.bind_some]
        refine Eq.trans (L26_9_val ty36.zero (0, 1) (0, 1) (0, 1) _ _ _ hz hz hz) ?_
        rw [hgt, hgt, hw, L26_6_eq]
        rfl
    · have e1 : (((x.length : Nat) : Int) == 1) = false := by
        rw [beq_eq_false_iff_ne]
        omega
      rw [e1, cond_false, k2]
      cases hL : legsB x (x.length - 1) 1 [] with
      | none => exact ⟨(0, 0), false, rfl, rfl⟩
      | some r =>
        have hlen := legsB_len x _ _ _ _ hL
        have hgood := legsB_good x _ _ _ _ (fun g hg => by cases hg) hL
        refine ⟨spdL r (0, 1), true, rfl, ?_⟩
        simp only [legsR, Option.bind_some, Bool.not_true, cond_false]
        exact L26_6_val ty36.zero r (by simp at hlen; omega) hgood r.length 0 (0, 1) (by omega) ratB_zero

theorem law6 (a : List Stp) (ha : a.length ≤ maxLen) : S6 a = some ((true, ()), ()) := by
  have hm : maxLen = 9223372036854775807 := by decide
  rw [hm] at ha
  rw [S6_eq]
  obtain ⟨m, h1, h2⟩ := S13_val a 1048576 (by omega) (by omega) (by omega)
  rw [h1]
  simp only [Option.bind_some]
  by_cases hm0 : m < 0
  · simp [hm0]
  obtain ⟨c1, c2, c3⟩ := h2.resolve_left hm0
  simp only [hm0, decide_false, cond_false]
  have la : a.length ≤ 1048576 := by omega
  obtain ⟨r, ok, j1, j2⟩ := speed_same a la
  have hok : (!(ok == ok)) = false := by cases ok <;> rfl
  simp only [S15_val a la, S27_val, Option.bind_some, j1, j2, S17_val a la, Bool.not_true, cond_false, hok]
end Go.Proofs.Ytdfcejijcnhcaaa.B.It
