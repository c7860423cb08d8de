/- A part of the proof: It4d. No conditions. -/
import Derived.Test.YtdfcejijcnhcaaaDIt3d
set_option linter.unusedVariables false
set_option linter.unusedSimpArgs false
namespace Go.Proofs.Ytdfcejijcnhcaaa.D.It
open Am

theorem wrap_id {x : Int} (h1 : -9223372036854775808 ≤ x) (h2 : x ≤ 9223372036854775807) : IntKind.i64.wrap x = x := by
  rw [IntKind.wrap_i64]; omega
theorem getI_ok {α : Type} {xs : List α} {i : Nat} (h : i < xs.length) : getI xs (i : Int) = some xs[i] := by
  unfold getI
  rw [if_pos (by omega)]
  simp [h]
theorem wrap_succ {i : Nat} (h : i ≤ 2000000) : IntKind.i64.wrap ((i : Int) + 1) = ((i + 1 : Nat) : Int) := by
  rw [wrap_id] <;> omega

/-! ### loops -/
/-- All elements. -/
theorem all_loop {α R : Type} (x : List α) (p : α → Bool) (F E : Option R) (f : Int → Option R) (hl : x.length ≤ 1048576)
    (h1 : ∀ (i : Nat) (h : i < x.length), f (i : Int) = bif p x[i] then f ((i + 1 : Nat) : Int) else F) (h2 : f (x.length : Int) = E) :
    ∀ (n i : Nat), n + i = x.length → f (i : Int) = bif (x.drop i).all p then E else F
  | 0, i, hn => by
    obtain rfl : i = x.length := by omega
    rw [h2, List.drop_eq_nil_of_le (by omega)]
    rfl
  | n + 1, i, hn => by
    have hi : i < x.length := by omega
    rw [h1 i hi, all_loop x p F E f hl h1 h2 n (i + 1) (by omega), List.drop_eq_getElem_cons hi, List.all_cons]
    cases p x[i] <;> rfl

/-- The first of some elements. -/
def findB {α : Type} (p : α → Bool) (x : List α) : Int := if x.findIdx p < x.length then (x.findIdx p : Int) else -1
theorem find_loop {α R : Type} (x : List α) (p : α → Bool) (r : Int → Option R) (f : Int → Option R)
    (h1 : ∀ (i : Nat) (h : i < x.length), f (i : Int) = bif p x[i] then r (i : Int) else f ((i + 1 : Nat) : Int)) (h2 : f (x.length : Int) = r (-1)) :
    ∀ (n i : Nat), n + i = x.length → (∀ j (h : j < x.length), j < i → p x[j] = false) → f (i : Int) = r (findB p x)
  | 0, i, hn, hp => by
    obtain rfl : i = x.length := by omega
    have : x.findIdx p = x.length := List.findIdx_eq_length.2 (fun y hy => by
      obtain ⟨j, hj, rfl⟩ := List.mem_iff_getElem.1 hy
      exact hp j hj hj)
    rw [h2]
    unfold findB
    rw [if_neg (by omega)]
  | n + 1, i, hn, hp => by
    have hi : i < x.length := by omega
    rw [h1 i hi]
    cases hb : p x[i] with
    | true =>
      have : x.findIdx p = i := (List.findIdx_eq hi).2 ⟨hb, fun j hj => hp j (by omega) hj⟩
      unfold findB
      rw [this, if_pos hi]
      rfl
    | false =>
      rw [cond_false]
      exact find_loop x p r f h1 h2 n (i + 1) (by omega) (fun j hj hji => by
        by_cases he : j = i
        · subst he; exact hb
        · exact hp j hj (by omega))

/-- What is left behind a row. -/
def Left1 (m k : Int) (G : Prop) : Prop := m < 0 ∨ (0 ≤ m ∧ m ≤ k ∧ G)
theorem sz_loop {α : Type} (x : List α) (W G : α → Prop) (S : α → Int → Option ((Int × PUnit) × PUnit)) (f : Int → Int → Option ((Int × PUnit) × PUnit)) (hl : x.length ≤ 1048576) (hW : ∀ y ∈ x, W y)
    (hS : ∀ y k, W y → 0 ≤ k → k ≤ 1048576 → ∃ m, S y k = some ((m, ()), ()) ∧ Left1 m k (G y))
    (h1 : ∀ (i : Nat) (h : i < x.length) k, f k (i : Int) = (S x[i] k).bind fun y => bif decide (y.1.1 < 0) then some ((-1, ()), ()) else f y.1.1 ((i + 1 : Nat) : Int)) (h2 : ∀ k, f k (x.length : Int) = some ((k, ()), ())) :
    ∀ (n i : Nat) (k : Int), n + i = x.length → 0 ≤ k → k ≤ 1048576 → ∃ m, f k (i : Int) = some ((m, ()), ()) ∧ Left1 m k (∀ y ∈ x.drop i, G y)
  | 0, i, k, hn, h0, hk => by
    obtain rfl : i = x.length := by omega
    exact ⟨k, h2 k, .inr ⟨h0, by omega, by simp⟩⟩
  | n + 1, i, k, hn, h0, hk => by
    have hi : i < x.length := by omega
    obtain ⟨m, e1, e2⟩ := hS x[i] k (hW _ (List.getElem_mem hi)) h0 hk
    rw [h1 i hi, e1]
    simp only [Option.bind_some]
    by_cases hm : m < 0
    · exact ⟨-1, by simp [hm], .inl (by omega)⟩
    · obtain ⟨c1, c2, c3⟩ := e2.resolve_left hm
      simp only [hm, decide_false, cond_false]
      obtain ⟨m2, e3, e4⟩ := sz_loop x W G S f hl hW hS h1 h2 n (i + 1) m (by omega) c1 (by omega)
      refine ⟨m2, e3, ?_⟩
      rcases e4 with e4 | ⟨d1, d2, d3⟩
      · exact .inl e4
      · refine .inr ⟨d1, by omega, fun y hy => ?_⟩
        rw [List.drop_eq_getElem_cons hi] at hy
        rcases List.mem_cons.1 hy with rfl | hy
        · exact c3
        · exact d3 y hy

/-- Copies. -/
theorem copy_loop {α : Type} (x z : List α) (S : α → Option ((α × PUnit) × PUnit)) (f : List α → Int → Option ((List α × PUnit) × PUnit)) (hl : x.length ≤ 1048576) (hS : ∀ y ∈ x, S y = some ((y, ()), ()))
    (h1 : ∀ (i : Nat) (h : i < x.length) (v : List α), v.length = x.length → f v (i : Int) = (S x[i]).bind fun y => f (v.set i y.1.1) ((i + 1 : Nat) : Int)) (h2 : ∀ v : List α, f v (x.length : Int) = some ((v, ()), ())) :
    ∀ (n i : Nat) (v : List α), n + i = x.length → v.length = x.length → f v (i : Int) = some ((v.take i ++ x.drop i, ()), ())
  | 0, i, v, hn, hv => by
    obtain rfl : i = x.length := by omega
    rw [h2, List.take_of_length_le (by omega), List.drop_eq_nil_of_le (by omega), List.append_nil]
  | n + 1, i, v, hn, hv => by
    have hi : i < x.length := by omega
    rw [h1 i hi v hv, hS _ (List.getElem_mem hi)]
    simp only [Option.bind_some]
    rw [copy_loop x z S f hl hS h1 h2 n (i + 1) _ (by omega) (by simpa using hv)]
    congr 3
    have e1 : (v.set i x[i]).take (i + 1) = v.take i ++ [x[i]] := by
      rw [List.take_add_one, List.take_set_of_le (by omega)]
      simp [hv, hi]
    rw [e1, List.append_assoc, List.singleton_append]
    congr 1
    exact (List.drop_eq_getElem_cons hi).symm

/-! ### the data -/
abbrev Atm := List Int × Int × Bool
abbrev Cel := Int × List Atm
abbrev Rw := ByteArray × Cel
abbrev Rel := ByteArray × Int × List Rw
abbrev Opn := Int × ByteArray × ByteArray × Cel × List Int
def wA (a : Atm) : Prop := a.1.length ≤ maxLen
def wC (c : Cel) : Prop := c.2.length ≤ maxLen ∧ ∀ a ∈ c.2, wA a
def wR (r : Rw) : Prop := r.1.size ≤ maxLen ∧ wC r.2
def wL (r : Rel) : Prop := r.1.size ≤ maxLen ∧ r.2.2.length ≤ maxLen ∧ ∀ y ∈ r.2.2, wR y
def gA (a : Atm) : Prop := a.1.length ≤ 1048576
def gC (c : Cel) : Prop := c.2.length ≤ 1048576 ∧ ∀ a ∈ c.2, gA a
def gR (r : Rw) : Prop := r.1.size ≤ 1048576 ∧ gC r.2
def gL (r : Rel) : Prop := r.1.size ≤ 1048576 ∧ r.2.2.length ≤ 1048576 ∧ ∀ y ∈ r.2.2, gR y
def gO (o : Opn) : Prop := o.2.1.size ≤ 1048576 ∧ o.2.2.1.size ≤ 1048576 ∧ gC o.2.2.2.1 ∧ o.2.2.2.2.length ≤ 1048576
theorem maxLen_is : maxLen = 9223372036854775807 := by decide

/-! ### sizes -/
theorem S94_val (x : List Int) (k : Int) (hx : x.length ≤ maxLen) (h0 : 0 ≤ k) (hk : k ≤ 1048576) : ∃ m, S94 x k = some ((m, ()), ()) ∧ Left1 m k (x.length ≤ 1048576) := by
  rw [maxLen_is] at hx
  rw [S94_eq, wrap_id (by omega) (by omega)]
  by_cases h : k - (x.length : Int) < 0
  · exact ⟨-1, by simp [h], .inl (by omega)⟩
  · exact ⟨k - (x.length : Int), by simp only [h, decide_false, cond_false], .inr (by omega)⟩
/-- Passing on what is left. -/
theorem pass {m k : Int} {G : Prop} (h : Left1 m k G) : ∃ m', (bif decide (m < 0) then some (((-1 : Int), PUnit.unit), PUnit.unit) else some ((m, PUnit.unit), PUnit.unit)) = some ((m', ()), ()) ∧ Left1 m' k G := by
  by_cases hm : m < 0
  · exact ⟨-1, by simp [hm], .inl (by omega)⟩
  · exact ⟨m, by simp [hm], h⟩
theorem S109_val (a : Atm) (k : Int) (hx : wA a) (h0 : 0 ≤ k) (hk : k ≤ 1048576) : ∃ m, S109 a k = some ((m, ()), ()) ∧ Left1 m k (gA a) := by
  obtain ⟨m, h1, h2⟩ := S94_val a.1 k hx h0 hk
  rw [S109_eq, h1]
  exact pass h2
theorem S72_val (x : List Atm) (k : Int) (hx : x.length ≤ maxLen ∧ ∀ a ∈ x, wA a) (h0 : 0 ≤ k) (hk : k ≤ 1048576) : ∃ m, S72 x k = some ((m, ()), ()) ∧ Left1 m k (x.length ≤ 1048576 ∧ ∀ a ∈ x, gA a) := by
  obtain ⟨hx, hw⟩ := hx
  rw [maxLen_is] at hx
  rw [S72_eq, wrap_id (by omega) (by omega)]
  by_cases h : k - (x.length : Int) < 0
  · exact ⟨-1, by simp [h], .inl (by omega)⟩
  · simp only [h, decide_false, cond_false]
    have hl : x.length ≤ 1048576 := by omega
    obtain ⟨m, e1, e2⟩ := sz_loop x wA gA S109 (fun k i => L72_5 x k i) hl hw S109_val (fun i hi k => by
      rw [L72_5_eq, getI_ok hi, wrap_succ (by omega)]
      have : decide ((i : Int) < (x.length : Int)) = true := by simp; omega
      simp only [this, cond_true, Option.bind_some]) (fun k => by rw [L72_5_eq]; simp) x.length 0 (k - (x.length : Int)) (by omega) (by omega) (by omega)
    refine ⟨m, e1, ?_⟩
    rcases e2 with e2 | ⟨c1, c2, c3⟩
    · exact .inl e2
    · exact .inr ⟨c1, by omega, hl, by simpa using c3⟩
theorem S28_val (c : Cel) (k : Int) (hx : wC c) (h0 : 0 ≤ k) (hk : k ≤ 1048576) : ∃ m, S28 c k = some ((m, ()), ()) ∧ Left1 m k (gC c) := by
  obtain ⟨m, h1, h2⟩ := S72_val c.2 k hx h0 hk
  rw [S28_eq, h1]
  exact pass h2
theorem S135_val (r : Rw) (k : Int) (hx : wR r) (h0 : 0 ≤ k) (hk : k ≤ 1048576) : ∃ m, S135 r k = some ((m, ()), ()) ∧ Left1 m k (gR r) := by
  obtain ⟨hx, hw⟩ := hx
  rw [maxLen_is] at hx
  rw [S135_eq, wrap_id (by omega) (by omega)]
  by_cases h : k - (r.1.size : Int) < 0
  · exact ⟨-1, by simp [h], .inl (by omega)⟩
  · simp only [h, decide_false, cond_false]
    obtain ⟨m, h1, h2⟩ := S28_val r.2 (k - (r.1.size : Int)) hw (by omega) (by omega)
    rw [h1]
    obtain ⟨m', e1, e2⟩ := pass h2
    refine ⟨m', e1, ?_⟩
    rcases e2 with e2 | ⟨c1, c2, c3⟩
    · exact .inl e2
    · exact .inr ⟨c1, by omega, by omega, c3⟩
theorem S126_val (x : List Rw) (k : Int) (hx : x.length ≤ maxLen ∧ ∀ a ∈ x, wR a) (h0 : 0 ≤ k) (hk : k ≤ 1048576) : ∃ m, S126 x k = some ((m, ()), ()) ∧ Left1 m k (x.length ≤ 1048576 ∧ ∀ a ∈ x, gR a) := by
  obtain ⟨hx, hw⟩ := hx
  rw [maxLen_is] at hx
  rw [S126_eq, wrap_id (by omega) (by omega)]
  by_cases h : k - (x.length : Int) < 0
  · exact ⟨-1, by simp [h], .inl (by omega)⟩
  · simp only [h, decide_false, cond_false]
    have hl : x.length ≤ 1048576 := by omega
    obtain ⟨m, e1, e2⟩ := sz_loop x wR gR S135 (fun k i => L126_5 x k i) hl hw S135_val (fun i hi k => by
      rw [L126_5_eq, getI_ok hi, wrap_succ (by omega)]
      have : decide ((i : Int) < (x.length : Int)) = true := by simp; omega
      simp only [this, cond_true, Option.bind_some]) (fun k => by rw [L126_5_eq]; simp) x.length 0 (k - (x.length : Int)) (by omega) (by omega) (by omega)
    refine ⟨m, e1, ?_⟩
    rcases e2 with e2 | ⟨c1, c2, c3⟩
    · exact .inl e2
    · exact .inr ⟨c1, by omega, hl, by simpa using c3⟩
theorem S93_val (r : Rel) (k : Int) (hx : wL r) (h0 : 0 ≤ k) (hk : k ≤ 1048576) : ∃ m, S93 r k = some ((m, ()), ()) ∧ Left1 m k (gL r) := by
  obtain ⟨hx, hw⟩ := hx
  rw [maxLen_is] at hx
  rw [S93_eq, wrap_id (by omega) (by omega)]
  by_cases h : k - (r.1.size : Int) < 0
  · exact ⟨-1, by simp [h], .inl (by omega)⟩
  · simp only [h, decide_false, cond_false]
    obtain ⟨m, h1, h2⟩ := S126_val r.2.2 (k - (r.1.size : Int)) hw (by omega) (by omega)
    rw [h1]
    obtain ⟨m', e1, e2⟩ := pass h2
    refine ⟨m', e1, ?_⟩
    rcases e2 with e2 | ⟨c1, c2, c3⟩
    · exact .inl e2
    · exact .inr ⟨c1, by omega, by omega, c3⟩
theorem S52_val (x : List Rel) (k : Int) (hx : x.length ≤ maxLen ∧ ∀ a ∈ x, wL a) (h0 : 0 ≤ k) (hk : k ≤ 1048576) : ∃ m, S52 x k = some ((m, ()), ()) ∧ Left1 m k (x.length ≤ 1048576 ∧ ∀ a ∈ x, gL a) := by
  obtain ⟨hx, hw⟩ := hx
  rw [maxLen_is] at hx
  rw [S52_eq, wrap_id (by omega) (by omega)]
  by_cases h : k - (x.length : Int) < 0
  · exact ⟨-1, by simp [h], .inl (by omega)⟩
  · simp only [h, decide_false, cond_false]
    have hl : x.length ≤ 1048576 := by omega
    obtain ⟨m, e1, e2⟩ := sz_loop x wL gL S93 (fun k i => L52_5 x k i) hl hw S93_val (fun i hi k => by
      rw [L52_5_eq, getI_ok hi, wrap_succ (by omega)]
      have : decide ((i : Int) < (x.length : Int)) = true := by simp; omega
      simp only [this, cond_true, Option.bind_some]) (fun k => by rw [L52_5_eq]; simp) x.length 0 (k - (x.length : Int)) (by omega) (by omega) (by omega)
    refine ⟨m, e1, ?_⟩
    rcases e2 with e2 | ⟨c1, c2, c3⟩
    · exact .inl e2
    · exact .inr ⟨c1, by omega, hl, by simpa using c3⟩
theorem S53_val (o : Opn) (k : Int) (hx : o.2.1.size ≤ maxLen ∧ o.2.2.1.size ≤ maxLen ∧ wC o.2.2.2.1 ∧ o.2.2.2.2.length ≤ maxLen) (h0 : 0 ≤ k) (hk : k ≤ 1048576) : ∃ m, S53 o k = some ((m, ()), ()) ∧ Left1 m k (gO o) := by
  obtain ⟨x1, x2, x3, x4⟩ := hx
  rw [maxLen_is] at x1 x2
  rw [S53_eq, wrap_id (x := k - _) (by omega) (by omega)]
  by_cases h : k - (o.2.1.size : Int) < 0
  · exact ⟨-1, by simp [h], .inl (by omega)⟩
  · simp only [h, decide_false, cond_false]
    rw [wrap_id (by omega) (by omega)]
    by_cases h' : k - (o.2.1.size : Int) - (o.2.2.1.size : Int) < 0
    · exact ⟨-1, by simp [h'], .inl (by omega)⟩
    · simp only [h', decide_false, cond_false]
      obtain ⟨m, h1, h2⟩ := S28_val o.2.2.2.1 (k - (o.2.1.size : Int) - (o.2.2.1.size : Int)) x3 (by omega) (by omega)
      rw [h1]
      simp only [Option.bind_some]
      by_cases hm : m < 0
      · exact ⟨-1, by simp [hm], .inl (by omega)⟩
      · obtain ⟨c1, c2, c3⟩ := h2.resolve_left hm
        simp only [hm, decide_false, cond_false]
        obtain ⟨m2, h3, h4⟩ := S94_val o.2.2.2.2 m x4 c1 (by omega)
        rw [h3]
        obtain ⟨m', e1, e2⟩ := pass h4
        refine ⟨m', e1, ?_⟩
        rcases e2 with e2 | ⟨d1, d2, d3⟩
        · exact .inl e2
        · exact .inr ⟨d1, by omega, by omega, by omega, c3, d3⟩
end Go.Proofs.Ytdfcejijcnhcaaa.D.It
