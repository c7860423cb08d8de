/- A part of the proof: It6d. No conditions. -/
import Derived.Test.YtdfcejijcnhcaaaDIt5d
set_option linter.unusedVariables false
set_option linter.unusedSimpArgs false
namespace Go.Proofs.Ytdfcejijcnhcaaa.D.It
open Am

/-! ### numbers -/
def numB (a : Int) : Bool := decide (-400000000 ≤ a) && decide (a ≤ 400000000)
theorem S103_val (a : Int) : S103 a = some ((numB a, ()), ()) := by
  rw [S103_eq, S62_val, Option.bind_some]; rfl
theorem S105_val (a : Int) : S105 a = some ((numB a, ()), ()) := by
  rw [S105_eq]
  unfold numB
  by_cases h : a ≥ -400000000
  · simp [h]
  · simp [h]
theorem S71_val {a : Int} (h : numB a = true) : S71 a = some (((a.natAbs : Int), ()), ()) := by
  simp only [numB, Bool.and_eq_true, decide_eq_true_eq] at h
  rw [S71_eq]
  by_cases h0 : a < 0
  · simp only [h0, decide_true, cond_true]
    rw [wrap_id (by omega) (by omega)]
    congr 3; omega
  · simp only [h0, decide_false, cond_false]
    congr 3; omega
theorem S71_nat (a : Nat) : S71 (a : Int) = some (((a : Int), ()), ()) := by
  rw [S71_eq]
  have : decide ((a : Int) < 0) = false := by simp
  rw [this, cond_false]
theorem S124_val {a : Int} (h : numB a = true) : S124 a = some (((a.natAbs : Int), ()), ()) := by
  simp only [numB, Bool.and_eq_true, decide_eq_true_eq] at h
  rw [S124_eq]
  rw [wrap_id (by omega) (by omega)]
  simp only [cond_true]
  congr 3
  split <;> omega
theorem L114_val : ∀ (n : Nat) (a b : Int), b.natAbs ≤ n → 0 ≤ a → 0 ≤ b → L114_2 a b = some ((((Nat.gcd a.natAbs b.natAbs : Nat) : Int), ()), ())
  | n, a, b, hn, ha, hb => by
    rw [L114_2_eq]
    by_cases h0 : b = 0
    · subst h0
      simp only [bne_self_eq_false, cond_false]
      simp
      omega
    · have : (b != 0) = true := by simpa using h0
      rw [this, cond_true, cond_true]
      have hlt : a.natAbs % b.natAbs < b.natAbs := Nat.mod_lt _ (by omega)
      have hm := Int.natAbs_tmod a b
      cases n with
      | zero => omega
      | succ n =>
        rw [L114_val n b (Int.tmod a b) (by omega) hb (Int.tmod_nonneg _ ha), hm]
        congr 4
        rw [Nat.gcd_comm a.natAbs, Nat.gcd_rec b.natAbs a.natAbs, Nat.gcd_comm]
  termination_by n => n
theorem S114_val (a : Nat) {b : Int} (hb : numB b = true) : S114 (a : Int) b = some ((((Nat.gcd a b.natAbs : Nat) : Int), ()), ()) := by
  rw [S114_eq, S71_nat, S71_val hb]
  simp only [Option.bind_some]
  rw [L114_val _ _ _ (Nat.le_refl _) (by omega) (by omega)]
  simp
/-- The greatest common divisor of a number and a row. -/
def gl (x : List Int) (g : Nat) : Nat := x.foldl (fun g y => Nat.gcd g y.natAbs) g
theorem gl_gcd : ∀ (x : List Int) (g h : Nat), gl x (Nat.gcd g h) = Nat.gcd (gl x g) h
  | [], _, _ => rfl
  | y :: x, g, h => by
    change gl x (Nat.gcd (Nat.gcd g h) y.natAbs) = Nat.gcd (gl x (Nat.gcd g y.natAbs)) h
    rw [show Nat.gcd (Nat.gcd g h) y.natAbs = Nat.gcd (Nat.gcd g y.natAbs) h by rw [Nat.gcd_assoc, Nat.gcd_comm h, ← Nat.gcd_assoc], gl_gcd x]
theorem gl_is (x : List Int) (k : Nat) : gl x k = Nat.gcd (gl x 0) k := by
  rw [← gl_gcd, Nat.gcd_zero_left]
theorem L111_6_val (x : List Int) (i : Int) : ∀ (n : Nat) (a b : Int), b.natAbs ≤ n → 0 ≤ a → 0 ≤ b → L111_6 x a i b = L111_3 x ((Nat.gcd a.natAbs b.natAbs : Nat) : Int) (IntKind.i64.wrap (i + 1))
  | n, a, b, hn, ha, hb => by
    rw [L111_6_eq]
    by_cases h0 : b = 0
    · subst h0
      simp only [bne_self_eq_false, cond_false]
      congr 1
      simp
      omega
    · have : (b != 0) = true := by simpa using h0
      rw [this, cond_true, cond_true]
      have hlt : a.natAbs % b.natAbs < b.natAbs := Nat.mod_lt _ (by omega)
      have hm := Int.natAbs_tmod a b
      cases n with
      | zero => omega
      | succ n =>
        rw [L111_6_val x i n b (Int.tmod a b) (by omega) hb (Int.tmod_nonneg _ ha), hm]
        congr 2
        rw [Nat.gcd_comm a.natAbs, Nat.gcd_rec b.natAbs a.natAbs, Nat.gcd_comm]
  termination_by n => n
theorem L111_3_val (x : List Int) (hl : x.length ≤ 1048576) (hx : ∀ y ∈ x, numB y = true) : ∀ (n i g : Nat), n + i = x.length → L111_3 x (g : Int) (i : Int) = some ((((gl (x.drop i) g : Nat) : Int), ()), ())
  | 0, i, g, hn => by
    obtain rfl : i = x.length := by omega
    rw [L111_3_eq, lt_no, List.drop_eq_nil_of_le (by omega)]
    rfl
  | n + 1, i, g, hn => by
    have hi : i < x.length := by omega
    rw [L111_3_eq, lt_yes hi, getI_ok hi, cond_true, Option.bind_some, S124_val (hx _ (List.getElem_mem hi)), Option.bind_some, L111_6_val x i _ _ _ (Nat.le_refl _) (Int.natCast_nonneg _) (Int.natCast_nonneg _), wrap_succ (by omega), L111_3_val x hl hx n (i + 1) _ (by omega), List.drop_eq_getElem_cons hi]
    simp only [Int.natAbs_natCast]
    rfl
theorem S111_val (x : List Int) (k : Int) (hl : x.length ≤ 1048576) (hx : ∀ y ∈ x, numB y = true) (hk : numB k = true) : S111 x k = some ((((gl x k.natAbs : Nat) : Int), ()), ()) := by
  rw [S111_eq, S124_val hk, Option.bind_some]
  have := L111_3_val x hl hx x.length 0 k.natAbs (by omega)
  simpa using this
theorem L115_3_val (x : List Int) (hl : x.length ≤ 1048576) (hx : ∀ y ∈ x, numB y = true) : ∀ (n i g : Nat), n + i = x.length → L115_3 x (g : Int) x (x.length : Int) (i : Int) = some ((((gl (x.drop i) g : Nat) : Int), ()), ())
  | 0, i, g, hn => by
    obtain rfl : i = x.length := by omega
    rw [L115_3_eq, lt_no, List.drop_eq_nil_of_le (by omega)]
    rfl
  | n + 1, i, g, hn => by
    have hi : i < x.length := by omega
    rw [L115_3_eq, lt_yes hi, getI_ok hi, cond_true, Option.bind_some, S114_val _ (hx _ (List.getElem_mem hi)), Option.bind_some, wrap_succ (by omega), L115_3_val x hl hx n (i + 1) _ (by omega), List.drop_eq_getElem_cons hi]
    rfl
theorem S115_val (x : List Int) (hl : x.length ≤ 1048576) (hx : ∀ y ∈ x, numB y = true) : S115 x = some ((((gl x 0 : Nat) : Int), ()), ()) := by
  rw [S115_eq]
  have := L115_3_val x hl hx x.length 0 0 (by omega)
  simpa using this

/-! ### atoms -/
def atomB (a : Atm) : Bool := !(decide ((a.1.length : Int) > 4)) && (numB a.2.1 && (a.1.all numB && decide (((gl a.1 a.2.1.natAbs : Nat) : Int) ≤ 1)))
theorem S110_val (a : Atm) : S110 a = some ((atomB a, ()), ()) := by
  rw [S110_eq, S103_val]
  unfold atomB
  cases h : decide ((a.1.length : Int) > 4) with
  | true => rfl
  | false =>
    have hl : a.1.length ≤ 1048576 := by simp at h; omega
    simp only [cond_false, Option.bind_some, Bool.not_false, Bool.true_and]
    cases hk : numB a.2.1 with
    | false => rfl
    | true =>
      simp only [Bool.not_true, cond_false, Bool.true_and]
      have := all_loop a.1 numB (some ((false, ()), ())) (L110_4 a (a.1.length : Int)) (fun i => L110_4 a i) hl (fun i hi => by
        rw [L110_4_eq, getI_ok hi, wrap_succ (by omega)]
        simp only [lt_yes hi, cond_true, Option.bind_some, S103_val]
        cases numB a.1[i] <;> rfl) rfl a.1.length 0 (by omega)
      simp only [List.drop_zero, Int.natCast_zero] at this
      rw [show L110_4 a 0 = _ from this]
      cases ha : a.1.all numB with
      | false => rfl
      | true =>
        rw [cond_true, L110_4_eq, lt_no, cond_false, S111_val a.1 _ hl (List.all_eq_true.1 ha) hk]
        rfl
theorem S113_val (a : Atm) : S113 a = some ((atomB a, ()), ()) := by
  rw [S113_eq, S105_val]
  unfold atomB
  cases h : decide ((a.1.length : Int) > 4) with
  | true => rfl
  | false =>
    have hl : a.1.length ≤ 1048576 := by simp at h; omega
    simp only [cond_false, Option.bind_some, Bool.not_false, Bool.true_and]
    cases hk : numB a.2.1 with
    | false => rfl
    | true =>
      simp only [Bool.not_true, cond_false, Bool.true_and]
      have := all_loop a.1 numB (some ((false, ()), ())) (L113_4 a a.1 (a.1.length : Int) (a.1.length : Int)) (fun i => L113_4 a a.1 (a.1.length : Int) i) hl (fun i hi => by
        rw [L113_4_eq, getI_ok hi, wrap_succ (by omega)]
        simp only [lt_yes hi, cond_true, Option.bind_some, S105_val]
        cases numB a.1[i] <;> rfl) rfl a.1.length 0 (by omega)
      simp only [List.drop_zero, Int.natCast_zero] at this
      rw [show L113_4 a a.1 (a.1.length : Int) 0 = _ from this]
      cases ha : a.1.all numB with
      | false => rfl
      | true =>
        rw [cond_true, L113_4_eq, lt_no, cond_false, S115_val a.1 hl (List.all_eq_true.1 ha), Option.bind_some, S114_val _ hk, Option.bind_some, ← gl_is]
        rfl

/-! ### cells -/
def cellB (c : Cel) : Bool := c.2.all (fun a => atomB a && !((a.1.length : Int) != c.1)) && (decide (0 ≤ c.1) && decide (c.1 ≤ 4) && decide ((c.2.length : Int) ≤ 16))
theorem S73_val (c : Cel) (hl : c.2.length ≤ 1048576) : S73 c = some ((cellB c, ()), ()) := by
  rw [S73_eq]
  have := all_loop c.2 (fun a => atomB a && !((a.1.length : Int) != c.1)) (some ((false, ()), ())) (L73_2 c (c.2.length : Int)) (fun i => L73_2 c i) hl (fun i hi => by
    rw [L73_2_eq, getI_ok hi, wrap_succ (by omega)]
    simp only [lt_yes hi, cond_true, Option.bind_some, S110_val]
    cases atomB c.2[i] <;> cases ((c.2[i].1.length : Int) != c.1) <;> rfl) rfl c.2.length 0 (by omega)
  simp only [List.drop_zero, Int.natCast_zero] at this
  rw [show L73_2 c 0 = _ from this, L73_2_eq, lt_no, S62_val]
  unfold cellB
  cases c.2.all _ <;> cases (decide (0 ≤ c.1) && decide (c.1 ≤ 4)) <;> rfl
theorem S76_val (c : Cel) : S76 c = some ((cellB c, ()), ()) := by
  rw [S76_eq]
  unfold cellB
  by_cases h1 : c.1 < 0
  · have : ¬ (0 ≤ c.1) := by omega
    simp [h1, this]
  by_cases h2 : c.1 > 4
  · have : ¬ (c.1 ≤ 4) := by omega
    simp [h1, h2, this]
  by_cases h3 : (c.2.length : Int) > 16
  · have : ¬ ((c.2.length : Int) ≤ 16) := by omega
    simp only [h1, h2, h3, this, decide_false, decide_true, cond_false, cond_true, Bool.and_false]
  · have e1 : 0 ≤ c.1 := by omega
    have e2 : c.1 ≤ 4 := by omega
    have e3 : (c.2.length : Int) ≤ 16 := by omega
    simp only [h1, h2, h3, e1, e2, e3, decide_false, decide_true, cond_false, Bool.and_self, Bool.and_true]
    have := all_loop c.2 (fun a => atomB a && !((a.1.length : Int) != c.1)) (some ((false, ()), ())) (some ((true, ()), ())) (fun i => L76_4 c c.2 (c.2.length : Int) i) (by omega) (fun i hi => by
      rw [L76_4_eq, getI_ok hi, wrap_succ (by omega)]
      simp only [lt_yes hi, cond_true, Option.bind_some, S113_val]
      cases atomB c.2[i] <;> cases ((c.2[i].1.length : Int) != c.1) <;> rfl) (by rw [L76_4_eq, lt_no]; rfl) c.2.length 0 (by omega)
    simp only [List.drop_zero, Int.natCast_zero] at this
    rw [show L76_4 c c.2 (c.2.length : Int) 0 = _ from this]
    cases c.2.all _ <;> rfl

/-! ### relations -/
def rowB (d : Int) (r : Rw) : Bool := wordB r.1 97 122 && (cellB r.2 && !(r.2.1 != d))
def relB (r : Rel) : Bool := wordB r.1 65 90 && (decide (0 ≤ r.2.1) && decide (r.2.1 ≤ 4) && (decide ((r.2.2.length : Int) ≤ 8) && r.2.2.all (rowB r.2.1)))
theorem S127_val (r : Rel) (h : gL r) : S127 r = some ((relB r, ()), ()) := by
  obtain ⟨h0, hl, hg⟩ := h
  rw [S127_eq]
  have := all_loop r.2.2 (rowB r.2.1) (some ((false, ()), ())) (L127_2 r (r.2.2.length : Int)) (fun i => L127_2 r i) hl (fun i hi => by
    have hgi := hg _ (List.getElem_mem hi)
    rw [L127_2_eq, getI_ok hi, wrap_succ (by omega)]
    simp only [lt_yes hi, cond_true, Option.bind_some, S97_val _ _ _ hgi.1, S73_val _ hgi.2.1]
    unfold rowB
    cases wordB r.2.2[i].1 97 122 <;> cases cellB r.2.2[i].2 <;> cases (r.2.2[i].2.1 != r.2.1) <;> rfl) rfl r.2.2.length 0 (by omega)
  simp only [List.drop_zero, Int.natCast_zero] at this
  rw [show L127_2 r 0 = _ from this, L127_2_eq, lt_no, S62_val, S97_val _ _ _ h0]
  unfold relB
  cases r.2.2.all _ <;> cases wordB r.1 65 90 <;> cases (decide (0 ≤ r.2.1) && decide (r.2.1 ≤ 4)) <;> cases decide ((r.2.2.length : Int) ≤ 8) <;> rfl
theorem S129_val (r : Rel) : S129 r = some ((relB r, ()), ()) := by
  rw [S129_eq, S137_val]
  unfold relB
  cases wordB r.1 65 90 with
  | false => rfl
  | true =>
    simp only [Option.bind_some, Bool.not_true, cond_false, Bool.true_and]
    by_cases h1 : r.2.1 < 0
    · have : ¬ (0 ≤ r.2.1) := by omega
      simp [h1, this]
    by_cases h2 : r.2.1 > 4
    · have : ¬ (r.2.1 ≤ 4) := by omega
      simp [h1, h2, this]
    by_cases h3 : (r.2.2.length : Int) > 8
    · have : ¬ ((r.2.2.length : Int) ≤ 8) := by omega
      simp only [h1, h2, h3, this, decide_false, decide_true, cond_false, cond_true, Bool.and_false, Bool.false_and]
    · have e1 : 0 ≤ r.2.1 := by omega
      have e2 : r.2.1 ≤ 4 := by omega
      have e3 : (r.2.2.length : Int) ≤ 8 := by omega
      simp only [h1, h2, h3, e1, e2, e3, decide_false, decide_true, cond_false, Bool.and_self, Bool.true_and]
      have := all_loop r.2.2 (rowB r.2.1) (some ((false, ()), ())) (some ((true, ()), ())) (fun i => L129_4 r r.2.2 (r.2.2.length : Int) i) (by omega) (fun i hi => by
        rw [L129_4_eq, getI_ok hi, wrap_succ (by omega)]
        simp only [lt_yes hi, cond_true, Option.bind_some, S100_val, S76_val]
        unfold rowB
        cases wordB r.2.2[i].1 97 122 <;> cases cellB r.2.2[i].2 <;> cases (r.2.2[i].2.1 != r.2.1) <;> rfl) (by rw [L129_4_eq, lt_no]; rfl) r.2.2.length 0 (by omega)
      simp only [List.drop_zero, Int.natCast_zero] at this
      rw [show L129_4 r r.2.2 (r.2.2.length : Int) 0 = _ from this]
      cases r.2.2.all _ <;> rfl

/-! ### the relations together -/
def named (n : ByteArray) (r : Rel) : Bool := r.1.toList == n.toList
theorem S95_val (x : List Rel) (n : ByteArray) (hl : x.length ≤ 1048576) : S95 x n = some ((findB (named n) x, ()), ()) := by
  rw [S95_eq]
  exact find_loop x (named n) (fun i => some ((i, ()), ())) (fun i => L95_2 x n i) (fun i hi => by
    rw [L95_2_eq, getI_ok hi, wrap_succ (by omega)]
    simp only [lt_yes hi, cond_true, Option.bind_some]
    rfl) (by rw [L95_2_eq, lt_no]; rfl) x.length 0 (by omega) (fun j _ h => by omega)
theorem S101_val (x : List Rel) (n : ByteArray) (hl : x.length ≤ 1048576) : S101 x n = some ((findB (named n) x, ()), ()) := by
  rw [S101_eq]
  exact find_loop x (named n) (fun i => some ((i, ()), ())) (fun i => L101_2 x n x (x.length : Int) i) (fun i hi => by
    rw [L101_2_eq, getI_ok hi, wrap_succ (by omega)]
    simp only [lt_yes hi, cond_true, Option.bind_some]
    rfl) (by rw [L101_2_eq, lt_no]; rfl) x.length 0 (by omega) (fun j _ h => by omega)
theorem findB_take {α : Type} (p : α → Bool) (x : List α) (i : Nat) (hi : i < x.length) (hp : p x[i] = true) : decide (findB p (x.take i) ≥ 0) = (findB p x != (i : Int)) := by
  have h1 : x.findIdx p ≤ i := Nat.le_of_not_lt fun h => by
    have := List.not_of_lt_findIdx h
    rw [hp] at this
    cases this
  have h2 : (x.take i).findIdx p = min i (x.findIdx p) := List.findIdx_take
  have h3 : (x.take i).length = i := by simp; omega
  unfold findB
  rw [h2, h3, if_pos (by omega : x.findIdx p < x.length)]
  by_cases h : x.findIdx p = i
  · rw [if_neg (by omega), h]
    simp
  · rw [if_pos (by omega)]
    have e1 : ((x.findIdx p : Nat) : Int) ≠ (i : Int) := by omega
    have e2 : ((min i (x.findIdx p) : Nat) : Int) ≥ 0 := by omega
    simp [e1, e2]
def allN (p : Nat → Bool) : Nat → Nat → Bool
  | 0, _ => true
  | n + 1, i => p i && allN p n (i + 1)
theorem idx_loop {R : Type} (l : Nat) (p : Nat → Bool) (F E : Option R) (f : Int → Option R)
    (h1 : ∀ (i : Nat), i < l → f (i : Int) = bif p i then f ((i + 1 : Nat) : Int) else F) (h2 : f (l : Int) = E) :
    ∀ (n i : Nat), n + i = l → f (i : Int) = bif allN p n i then E else F
  | 0, i, hn => by
    obtain rfl : i = l := by omega
    rw [h2]; rfl
  | n + 1, i, hn => by
    rw [h1 i (by omega), idx_loop l p F E f h1 h2 n (i + 1) (by omega)]
    cases h : p i <;> simp [allN, h]
def dbP (x : List Rel) (i : Nat) : Bool := match x[i]? with
  | some r => relB r && !(decide (findB (named r.1) (x.take i) ≥ 0))
  | none => true
def dbB (x : List Rel) : Bool := allN (dbP x) x.length 0 && decide ((x.length : Int) ≤ 6)
theorem S96_val (x : List Rel) (h : x.length ≤ 1048576 ∧ ∀ a ∈ x, gL a) : S96 x = some ((dbB x, ()), ()) := by
  obtain ⟨hl, hg⟩ := h
  rw [S96_eq]
  have := idx_loop x.length (dbP x) (some ((false, ()), ())) (L96_2 x (x.length : Int)) (fun i => L96_2 x i) (fun i hi => by
    rw [L96_2_eq, getI_ok hi, wrap_succ (by omega)]
    have e : (decide ((0 : Int) ≤ (i : Int)) && decide ((i : Int) ≤ (x.length : Int))) = true := by simp; omega
    have e2 : S95 (List.drop (Int.toNat 0) (List.take ((i : Int)).toNat x)) x[i].1 = some ((findB (named x[i].1) (x.take i), ()), ()) := by
      have : List.drop (Int.toNat 0) (List.take ((i : Int)).toNat x) = x.take i := by simp
      rw [this]
      exact S95_val _ _ (by simp; omega)
    have e0 : (decide (0 ≤ 0) && decide ((0 : Int) ≤ (i : Int)) && decide ((i : Int) ≤ (x.length : Int))) = true := by simp; omega
    simp only [lt_yes hi, cond_true, Option.bind_some, S127_val _ (hg _ (List.getElem_mem hi)), e2]
    rw [e0]
    unfold dbP
    rw [List.getElem?_eq_getElem hi]
    simp only []
    cases relB x[i] <;> cases decide (findB (named x[i].1) (x.take i) ≥ 0) <;> rfl) rfl x.length 0 (by omega)
  simp only [Int.natCast_zero] at this
  rw [show L96_2 x 0 = _ from this, L96_2_eq, lt_no]
  unfold dbB
  cases allN (dbP x) x.length 0 <;> rfl
theorem S99_val (x : List Rel) : S99 x = some ((dbB x, ()), ()) := by
  rw [S99_eq]
  unfold dbB
  by_cases h : (x.length : Int) > 6
  · have : ¬ ((x.length : Int) ≤ 6) := by omega
    simp only [h, this, decide_true, decide_false, cond_true, Bool.and_false]
  · have e : (x.length : Int) ≤ 6 := by omega
    simp only [h, e, decide_true, decide_false, cond_false, Bool.and_true]
    have := idx_loop x.length (dbP x) (some ((false, ()), ())) (some ((true, ()), ())) (fun i => L99_4 x x (x.length : Int) i) (fun i hi => by
      rw [L99_4_eq, getI_ok hi, wrap_succ (by omega)]
      simp only [lt_yes hi, cond_true, Option.bind_some, S129_val, S101_val _ _ (show x.length ≤ 1048576 by omega)]
      unfold dbP
      rw [List.getElem?_eq_getElem hi]
      simp only []
      rw [findB_take _ x i hi (by simp [named])]
      cases relB x[i] <;> cases (findB (named x[i].1) x != (i : Int)) <;> rfl) (by rw [L99_4_eq, lt_no]; rfl) x.length 0 (by omega)
    simp only [Int.natCast_zero] at this
    rw [show L99_4 x x (x.length : Int) 0 = _ from this]
    cases allN (dbP x) x.length 0 <;> rfl
end Go.Proofs.Ytdfcejijcnhcaaa.D.It
