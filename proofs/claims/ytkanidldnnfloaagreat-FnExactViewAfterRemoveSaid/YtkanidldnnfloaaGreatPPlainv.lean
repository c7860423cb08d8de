/- A part of the proof: Plainv. No conditions. -/
import Derived.Test.YtkanidldnnfloaaGreatPIt3v
import Derived.Test.YtkanidldnnfloaaGreatPG7
set_option linter.unusedVariables false
set_option linter.unusedSimpArgs false
namespace Go.Proofs.YtkanidldnnfloaaGreat.P.It
open Am
/-! ### numbers, lists, loops -/
theorem wrap_id {x : Int} (h1 : -9223372036854775808 ≤ x) (h2 : x ≤ 9223372036854775807) : IntKind.i64.wrap x = x := by
  rw [IntKind.wrap_i64]; omega
theorem getI_ok {α : Type} {xs : List α} {i : Nat} (h : i < xs.length) : getI xs (i : Int) = some xs[i] := by
  unfold getI
  rw [if_pos (by omega)]
  simp [h]
theorem wrap_succ {i : Nat} (h : i ≤ 1000000000000) : IntKind.i64.wrap ((i : Int) + 1) = ((i + 1 : Nat) : Int) := by
  rw [wrap_id] <;> omega
theorem wrap_up {k : Int} (h0 : 0 ≤ k) (h1 : k ≤ 1000000000000000000) : IntKind.i64.wrap (k + 1) = k + 1 := wrap_id (by omega) (by omega)
theorem lt_yes {i n : Nat} (h : i < n) : decide ((i : Int) < (n : Int)) = true := by simp; omega
theorem lt_no (n : Nat) : decide ((n : Int) < (n : Int)) = false := by simp
theorem neg_dec : decide ((-1 : Int) < 0) = true := by decide
theorem maxLen_is : maxLen = 9223372036854775807 := by decide
theorem getI_set {α : Type} {x : List α} {i : Nat} (h : i < x.length) (v : α) : getI (x.set i v) (i : Int) = some v := by
  rw [getI_ok (by simpa using h)]; simp
theorem mk_ok {α R : Type} (x : List α) (c : Int) (hl : x.length ≤ 68719476736) (h0 : 0 ≤ c) (hc : c ≤ 1000) (A B : R) : (bif decide (0 ≤ (x.length : Int)) && decide ((x.length : Int) ≤ (x.length : Int)) && decide ((x.length : Int) * c ≤ 140737488355328) && decide ((x.length : Int) ≤ 9223372036854775807) then A else B) = A := by
  have h1 : (x.length : Int) * c ≤ 68719476736 * 1000 := Int.mul_le_mul (by omega) hc h0 (by omega)
  have h2 : (x.length : Int) * c ≤ 140737488355328 := by omega
  have h3 : (x.length : Int) ≤ 9223372036854775807 := by omega
  simp [h2, h3]
/-- All elements. -/
theorem all_loop {α R : Type} (x : List α) (p : α → Bool) (F E : Option R) (f : Int → Option R) (hl : x.length ≤ 68719476736)
    (h1 : ∀ (i : Nat) (h : i < x.length), f (i : Int) = bif p x[i] then f ((i + 1 : Nat) : Int) else F) (h2 : f (x.length : Int) = E) :
    ∀ (n i : Nat), n + i = x.length → f (i : Int) = bif (x.drop i).all p then E else F
  | 0, i, hn => by
    obtain rfl : i = x.length := by omega
    rw [h2, List.drop_eq_nil_of_le (by omega)]
    rfl
  | n + 1, i, hn => by
    have hi : i < x.length := by omega
    rw [h1 i hi, all_loop x p F E f hl h1 h2 n (i + 1) (by omega), List.drop_eq_getElem_cons hi, List.all_cons]
    cases p x[i] <;> rfl
theorem all0 {α R : Type} (x : List α) (p : α → Bool) (F E : Option R) (f : Int → Option R) (hl : x.length ≤ 68719476736)
    (h1 : ∀ (i : Nat) (h : i < x.length), f (i : Int) = bif p x[i] then f ((i + 1 : Nat) : Int) else F) (h2 : f (x.length : Int) = E) : f 0 = bif x.all p then E else F := by
  have := all_loop x p F E f hl h1 h2 x.length 0 (by omega)
  rwa [List.drop_zero] at this
/-- The first of some elements. -/
def findB {α : Type} (p : α → Bool) (x : List α) : Int := if x.findIdx p < x.length then (x.findIdx p : Int) else -1
theorem find_loop {α R : Type} (x : List α) (p : α → Bool) (r : Int → Option R) (f : Int → Option R)
    (h1 : ∀ (i : Nat) (h : i < x.length), f (i : Int) = bif p x[i] then r (i : Int) else f ((i + 1 : Nat) : Int)) (h2 : f (x.length : Int) = r (-1)) :
    ∀ (n i : Nat), n + i = x.length → (∀ j (h : j < x.length), j < i → p x[j] = false) → f (i : Int) = r (findB p x)
  | 0, i, hn, hp => by
    obtain rfl : i = x.length := by omega
    have : x.findIdx p = x.length := List.findIdx_eq_length.2 (fun y hy => by
      obtain ⟨j, hj, rfl⟩ := List.mem_iff_getElem.1 hy
      exact hp j hj hj)
    rw [h2]
    unfold findB
    rw [if_neg (by omega)]
  | n + 1, i, hn, hp => by
    have hi : i < x.length := by omega
    rw [h1 i hi]
    cases hb : p x[i] with
    | true =>
      have : x.findIdx p = i := (List.findIdx_eq hi).2 ⟨hb, fun j hj => hp j (by omega) hj⟩
      unfold findB
      rw [this, if_pos hi]
      rfl
    | false =>
      rw [cond_false]
      exact find_loop x p r f h1 h2 n (i + 1) (by omega) (fun j hj hji => by
        by_cases he : j = i
        · subst he; exact hb
        · exact hp j hj (by omega))

/-! ### what is left of a purse -/
def subN (k : Int) (n : Nat) : Int := if (n : Int) ≤ k then k - n else -1
theorem subN_no {k : Int} {n : Nat} (h : ¬ (n : Int) ≤ k) : subN k n = -1 := if_neg h
theorem subN_yes {k : Int} {n : Nat} (h : (n : Int) ≤ k) : subN k n = k - n := if_pos h
theorem subN_cases (k : Int) (n : Nat) : (subN k n = -1 ∧ ¬ (n : Int) ≤ k) ∨ ∃ m, subN k n = m ∧ m = k - n ∧ 0 ≤ m := by
  by_cases h : (n : Int) ≤ k
  · exact .inr ⟨_, subN_yes h, rfl, by omega⟩
  · exact .inl ⟨subN_no h, h⟩
theorem subN_more {R : Type} {k : Int} {a b : Nat} {u : R} (h : 0 ≤ k - (a : Int)) : some ((subN (k - (a : Int)) b, u), u) = some ((subN k (a + b), u), u) := by
  congr 3
  unfold subN
  by_cases h1 : (b : Int) ≤ k - a
  · rw [if_pos h1, if_pos (by omega)]; omega
  · rw [if_neg h1, if_neg (by omega)]
def zB (x : ByteArray) : Nat := x.size
def zI (x : List Int) : Nat := x.length
def zL {α : Type} (f : α → Nat) (x : List α) : Nat := x.length + (x.map f).sum
theorem zL_len {α : Type} (f : α → Nat) (x : List α) : x.length ≤ zL f x := Nat.le_add_right _ _
theorem zL_mem {α : Type} (f : α → Nat) {x : List α} {y : α} (h : y ∈ x) : f y ≤ zL f x := by
  have : f y ≤ (x.map f).sum := by
    induction x with
    | nil => cases h
    | cons a l ih =>
      rw [List.map_cons, List.sum_cons]
      rcases List.mem_cons.1 h with rfl | h
      · omega
      · have := ih h; omega
  unfold zL
  omega
theorem sz_loop {α : Type} (x : List α) (W : α → Prop) (g : α → Nat) (S : α → Int → Option ((Int × PUnit) × PUnit)) (f : Int → Int → Option ((Int × PUnit) × PUnit)) (hl : x.length ≤ 1048576) (hW : ∀ y ∈ x, W y)
    (hS : ∀ y k, W y → 0 ≤ k → k ≤ 1048576 → S y k = some ((subN k (g y), ()), ()))
    (h1 : ∀ (i : Nat) (h : i < x.length) k, f k (i : Int) = (S x[i] k).bind fun y => bif decide (y.1.1 < 0) then some ((-1, ()), ()) else f y.1.1 ((i + 1 : Nat) : Int)) (h2 : ∀ k, f k (x.length : Int) = some ((k, ()), ())) :
    ∀ (n i : Nat) (k : Int), n + i = x.length → 0 ≤ k → k ≤ 1048576 → f k (i : Int) = some ((subN k ((x.drop i).map g).sum, ()), ())
  | 0, i, k, hn, h0, hk => by
    obtain rfl : i = x.length := by omega
    rw [h2, List.drop_eq_nil_of_le (by omega), subN_yes (by simpa using h0)]
    simp
  | n + 1, i, k, hn, h0, hk => by
    have hi : i < x.length := by omega
    rw [h1 i hi, hS x[i] k (hW _ (List.getElem_mem hi)) h0 hk, List.drop_eq_getElem_cons hi, List.map_cons, List.sum_cons]
    simp only [Option.bind_some]
    rcases subN_cases k (g x[i]) with ⟨e, a⟩ | ⟨m, e, a, d⟩
    · rw [e, neg_dec, cond_true, subN_no (by omega)]
    · have c : decide (m < 0) = false := by simp; omega
      rw [e, c, cond_false, sz_loop x W g S f hl hW hS h1 h2 n (i + 1) m (by omega) d (by omega), a]
      exact subN_more (by omega)
/-- Copies. -/
theorem copy_loop {α : Type} (x : List α) (S : α → Option ((α × PUnit) × PUnit)) (f : List α → Int → Option ((List α × PUnit) × PUnit)) (hl : x.length ≤ 68719476736) (hS : ∀ y ∈ x, S y = some ((y, ()), ()))
    (h1 : ∀ (i : Nat) (h : i < x.length) (v : List α), v.length = x.length → f v (i : Int) = (S x[i]).bind fun y => f (v.set i y.1.1) ((i + 1 : Nat) : Int)) (h2 : ∀ v : List α, f v (x.length : Int) = some ((v, ()), ())) :
    ∀ (n i : Nat) (v : List α), n + i = x.length → v.length = x.length → f v (i : Int) = some ((v.take i ++ x.drop i, ()), ())
  | 0, i, v, hn, hv => by
    obtain rfl : i = x.length := by omega
    rw [h2, List.take_of_length_le (by omega), List.drop_eq_nil_of_le (by omega), List.append_nil]
  | n + 1, i, v, hn, hv => by
    have hi : i < x.length := by omega
    rw [h1 i hi v hv, hS _ (List.getElem_mem hi)]
    simp only [Option.bind_some]
    rw [copy_loop x S f hl hS h1 h2 n (i + 1) _ (by omega) (by simpa using hv)]
    congr 3
    have e1 : (v.set i x[i]).take (i + 1) = v.take i ++ [x[i]] := by
      rw [List.take_add_one, List.take_set_of_le (by omega)]
      simp [hv, hi]
    rw [e1, List.append_assoc, List.singleton_append]
    congr 1
    exact (List.drop_eq_getElem_cons hi).symm
theorem copy0 {α : Type} (x : List α) (S : α → Option ((α × PUnit) × PUnit)) (f : List α → Int → Option ((List α × PUnit) × PUnit)) (hl : x.length ≤ 68719476736) (hS : ∀ y ∈ x, S y = some ((y, ()), ()))
    (h1 : ∀ (i : Nat) (h : i < x.length) (v : List α), v.length = x.length → f v (i : Int) = (S x[i]).bind fun y => f (v.set i y.1.1) ((i + 1 : Nat) : Int)) (h2 : ∀ v : List α, f v (x.length : Int) = some ((v, ()), ())) (v : List α) (hv : v.length = x.length) :
    f v 0 = some ((x, ()), ()) := by
  have := copy_loop x S f hl hS h1 h2 x.length 0 v (by omega) hv
  rw [Int.natCast_zero] at this
  rw [this]; simp
/-- Equalities of a thing with itself. -/
theorem eq_loop {α R : Type} (x : List α) (E : Option R) (f : Int → Option R) (hl : x.length ≤ 68719476736)
    (h1 : ∀ (i : Nat) (h : i < x.length), f (i : Int) = f ((i + 1 : Nat) : Int)) (h2 : f (x.length : Int) = E) : f 0 = E := by
  have := all0 x (fun _ => true) E E f hl (fun i h => by simpa using h1 i h) h2
  rw [this]
  cases x.all _ <;> rfl

/-! ### the data -/
def zA (x : Atm) : Nat := zI x.1
abbrev pAtm : Ty := .agg (.pair (.slice 0 (.int .i64)) (.pair (.int .i64) .bool))
def zC (x : Cel) : Nat := zL zA x.2
abbrev pCel : Ty := .agg (.pair (.int .i64) (.slice 0 pAtm))
def zR (x : Rw) : Nat := zB x.1 + zC x.2
abbrev pRw : Ty := .agg (.pair .str pCel)
def zQ (x : Rel) : Nat := zB x.1 + zL zR x.2.2
abbrev pRel : Ty := .agg (.pair .str (.pair (.int .i64) (.slice 0 pRw)))
def zN (x : Nod) : Nat := zA x.2.1 + zB x.2.2.1 + zB x.2.2.2.1 + zI x.2.2.2.2.1
abbrev pNod : Ty := .agg (.pair (.int .i64) (.pair pAtm (.pair .str (.pair .str (.pair (.slice 0 (.int .i64)) (.pair (.int .i64) (.pair (.int .i64) (.int .i64))))))))
def zP (x : Sup) : Nat := zC x.1 + zL zI x.2
abbrev pSup : Ty := .agg (.pair pCel (.slice 0 (.slice 0 (.int .i64))))
def zV (x : Viw) : Nat := zL zN x.1 + zL zP x.2
abbrev pViw : Ty := .agg (.pair (.slice 0 pNod) (.slice 0 pSup))
theorem Sw_szIntS_val (x : List Int) (k : Int) (w : WfD (.slice 0 (.int .i64)) x) (h0 : 0 ≤ k) (hk : k ≤ 1048576) : Sw_szIntS x k = some ((subN k (zI x), ()), ()) := by
  have hl : x.length ≤ maxLen := w.1
  rw [maxLen_is] at hl
  rw [Sw_szIntS_eq, wrap_id (by omega) (by omega)]
  by_cases h : k - (x.length : Int) < 0
  · simp only [h, decide_true, cond_true]; rw [subN_no (by unfold zI; omega)]
  · simp only [h, decide_false, cond_false]; rw [subN_yes (by unfold zI; omega)]; rfl
theorem Sw_szIntSS_val (x : List (List Int)) (k : Int) (w : WfD (.slice 0 (.slice 0 (.int .i64))) x) (h0 : 0 ≤ k) (hk : k ≤ 1048576) : Sw_szIntSS x k = some ((subN k (zL zI x), ()), ()) := by
  have hl : x.length ≤ maxLen := w.1
  rw [maxLen_is] at hl
  rw [Sw_szIntSS_eq, wrap_id (by omega) (by omega)]
  have hz : zL zI x = x.length + (x.map zI).sum := rfl
  by_cases h : k - (x.length : Int) < 0
  · simp only [h, decide_true, cond_true]; rw [subN_no (by rw [hz]; omega)]
  · simp only [h, decide_false, cond_false]
    have := sz_loop x (WfD (.slice 0 (.int .i64))) zI Sw_szIntS (fun k i => Lw_szIntSS_5 x k i) (by omega) w.2 (fun y k w h0 hk => Sw_szIntS_val y k w h0 hk) (fun i hi k => by
      rw [Lw_szIntSS_5_eq, getI_ok hi, lt_yes hi, wrap_succ (by omega)]; simp only [cond_true, Option.bind_some]) (fun k => by rw [Lw_szIntSS_5_eq, lt_no]; rfl) x.length 0 (k - (x.length : Int)) (by omega) (by omega) (by omega)
    rw [Int.natCast_zero] at this
    refine this.trans ?_
    rw [List.drop_zero, hz, subN_more (by omega)]
theorem Sw_szAtom_val (x : Atm) (k : Int) (w : WfD pAtm x) (h0 : 0 ≤ k) (hk : k ≤ 1048576) : Sw_szAtom x k = some ((subN k (zA x), ()), ()) := by
  have hz : zA x = zI x.1 := rfl
  rw [Sw_szAtom_eq]
  rw [Sw_szIntS_val _ _ w.1 (by omega) (by omega)]
  simp only [Option.bind_some]
  rcases subN_cases k (zI x.1) with ⟨e1, a1⟩ | ⟨k1, e1, a1, d1⟩
  · rw [e1]; simp only [neg_dec, cond_true]; rw [subN_no (by rw [hz]; omega)]
  have c1 : decide (k1 < 0) = false := by simp; omega
  rw [e1]; simp only [c1, cond_false]
  rw [subN_yes (by rw [hz]; omega)]
  congr 3 <;> (rw [hz]; omega)
theorem Sw_szAtomS_val (x : List Atm) (k : Int) (w : WfD (.slice 0 pAtm) x) (h0 : 0 ≤ k) (hk : k ≤ 1048576) : Sw_szAtomS x k = some ((subN k (zL zA x), ()), ()) := by
  have hl : x.length ≤ maxLen := w.1
  rw [maxLen_is] at hl
  rw [Sw_szAtomS_eq, wrap_id (by omega) (by omega)]
  have hz : zL zA x = x.length + (x.map zA).sum := rfl
  by_cases h : k - (x.length : Int) < 0
  · simp only [h, decide_true, cond_true]; rw [subN_no (by rw [hz]; omega)]
  · simp only [h, decide_false, cond_false]
    have := sz_loop x (WfD pAtm) zA Sw_szAtom (fun k i => Lw_szAtomS_5 x k i) (by omega) w.2 (fun y k w h0 hk => Sw_szAtom_val y k w h0 hk) (fun i hi k => by
      rw [Lw_szAtomS_5_eq, getI_ok hi, lt_yes hi, wrap_succ (by omega)]; simp only [cond_true, Option.bind_some]) (fun k => by rw [Lw_szAtomS_5_eq, lt_no]; rfl) x.length 0 (k - (x.length : Int)) (by omega) (by omega) (by omega)
    rw [Int.natCast_zero] at this
    refine this.trans ?_
    rw [List.drop_zero, hz, subN_more (by omega)]
theorem Sw_szCell_val (x : Cel) (k : Int) (w : WfD pCel x) (h0 : 0 ≤ k) (hk : k ≤ 1048576) : Sw_szCell x k = some ((subN k (zC x), ()), ()) := by
  have hz : zC x = zL zA x.2 := rfl
  rw [Sw_szCell_eq]
  rw [Sw_szAtomS_val _ _ w.2 (by omega) (by omega)]
  simp only [Option.bind_some]
  rcases subN_cases k (zL zA x.2) with ⟨e1, a1⟩ | ⟨k1, e1, a1, d1⟩
  · rw [e1]; simp only [neg_dec, cond_true]; rw [subN_no (by rw [hz]; omega)]
  have c1 : decide (k1 < 0) = false := by simp; omega
  rw [e1]; simp only [c1, cond_false]
  rw [subN_yes (by rw [hz]; omega)]
  congr 3 <;> (rw [hz]; omega)
theorem Sw_szRow_val (x : Rw) (k : Int) (w : WfD pRw x) (h0 : 0 ≤ k) (hk : k ≤ 1048576) : Sw_szRow x k = some ((subN k (zR x), ()), ()) := by
  have hz : zR x = zB x.1 + zC x.2 := rfl
  rw [Sw_szRow_eq]
  have b1 : zB x.1 ≤ maxLen := w.1
  rw [maxLen_is] at b1
  obtain ⟨k1, e1, a1⟩ : ∃ m, IntKind.i64.wrap (k - ((ByteArray.size x.1 : Nat) : Int)) = m ∧ m = k - (zB x.1 : Int) := ⟨_, wrap_id (by unfold zB at b1; omega) (by unfold zB at b1; omega), rfl⟩
  simp only [e1]
  by_cases d1 : k1 < 0
  · simp only [d1, decide_true, cond_true]; rw [subN_no (by rw [hz]; omega)]
  simp only [d1, decide_false, cond_false]
  rw [Sw_szCell_val _ _ w.2 (by omega) (by omega)]
  simp only [Option.bind_some]
  rcases subN_cases k1 (zC x.2) with ⟨e2, a2⟩ | ⟨k2, e2, a2, d2⟩
  · rw [e2]; simp only [neg_dec, cond_true]; rw [subN_no (by rw [hz]; omega)]
  have c2 : decide (k2 < 0) = false := by simp; omega
  rw [e2]; simp only [c2, cond_false]
  rw [subN_yes (by rw [hz]; omega)]
  congr 3 <;> (rw [hz]; omega)
theorem Sw_szRowS_val (x : List Rw) (k : Int) (w : WfD (.slice 0 pRw) x) (h0 : 0 ≤ k) (hk : k ≤ 1048576) : Sw_szRowS x k = some ((subN k (zL zR x), ()), ()) := by
  have hl : x.length ≤ maxLen := w.1
  rw [maxLen_is] at hl
  rw [Sw_szRowS_eq, wrap_id (by omega) (by omega)]
  have hz : zL zR x = x.length + (x.map zR).sum := rfl
  by_cases h : k - (x.length : Int) < 0
  · simp only [h, decide_true, cond_true]; rw [subN_no (by rw [hz]; omega)]
  · simp only [h, decide_false, cond_false]
    have := sz_loop x (WfD pRw) zR Sw_szRow (fun k i => Lw_szRowS_5 x k i) (by omega) w.2 (fun y k w h0 hk => Sw_szRow_val y k w h0 hk) (fun i hi k => by
      rw [Lw_szRowS_5_eq, getI_ok hi, lt_yes hi, wrap_succ (by omega)]; simp only [cond_true, Option.bind_some]) (fun k => by rw [Lw_szRowS_5_eq, lt_no]; rfl) x.length 0 (k - (x.length : Int)) (by omega) (by omega) (by omega)
    rw [Int.natCast_zero] at this
    refine this.trans ?_
    rw [List.drop_zero, hz, subN_more (by omega)]
theorem Sw_szRelation_val (x : Rel) (k : Int) (w : WfD pRel x) (h0 : 0 ≤ k) (hk : k ≤ 1048576) : Sw_szRelation x k = some ((subN k (zQ x), ()), ()) := by
  have hz : zQ x = zB x.1 + zL zR x.2.2 := rfl
  rw [Sw_szRelation_eq]
  have b1 : zB x.1 ≤ maxLen := w.1
  rw [maxLen_is] at b1
  obtain ⟨k1, e1, a1⟩ : ∃ m, IntKind.i64.wrap (k - ((ByteArray.size x.1 : Nat) : Int)) = m ∧ m = k - (zB x.1 : Int) := ⟨_, wrap_id (by unfold zB at b1; omega) (by unfold zB at b1; omega), rfl⟩
  simp only [e1]
  by_cases d1 : k1 < 0
  · simp only [d1, decide_true, cond_true]; rw [subN_no (by rw [hz]; omega)]
  simp only [d1, decide_false, cond_false]
  rw [Sw_szRowS_val _ _ w.2.2 (by omega) (by omega)]
  simp only [Option.bind_some]
  rcases subN_cases k1 (zL zR x.2.2) with ⟨e2, a2⟩ | ⟨k2, e2, a2, d2⟩
  · rw [e2]; simp only [neg_dec, cond_true]; rw [subN_no (by rw [hz]; omega)]
  have c2 : decide (k2 < 0) = false := by simp; omega
  rw [e2]; simp only [c2, cond_false]
  rw [subN_yes (by rw [hz]; omega)]
  congr 3 <;> (rw [hz]; omega)
theorem Sw_szRelationS_val (x : List Rel) (k : Int) (w : WfD (.slice 0 pRel) x) (h0 : 0 ≤ k) (hk : k ≤ 1048576) : Sw_szRelationS x k = some ((subN k (zL zQ x), ()), ()) := by
  have hl : x.length ≤ maxLen := w.1
  rw [maxLen_is] at hl
  rw [Sw_szRelationS_eq, wrap_id (by omega) (by omega)]
  have hz : zL zQ x = x.length + (x.map zQ).sum := rfl
  by_cases h : k - (x.length : Int) < 0
  · simp only [h, decide_true, cond_true]; rw [subN_no (by rw [hz]; omega)]
  · simp only [h, decide_false, cond_false]
    have := sz_loop x (WfD pRel) zQ Sw_szRelation (fun k i => Lw_szRelationS_5 x k i) (by omega) w.2 (fun y k w h0 hk => Sw_szRelation_val y k w h0 hk) (fun i hi k => by
      rw [Lw_szRelationS_5_eq, getI_ok hi, lt_yes hi, wrap_succ (by omega)]; simp only [cond_true, Option.bind_some]) (fun k => by rw [Lw_szRelationS_5_eq, lt_no]; rfl) x.length 0 (k - (x.length : Int)) (by omega) (by omega) (by omega)
    rw [Int.natCast_zero] at this
    refine this.trans ?_
    rw [List.drop_zero, hz, subN_more (by omega)]
theorem Sw_szNode_val (x : Nod) (k : Int) (w : WfD pNod x) (h0 : 0 ≤ k) (hk : k ≤ 1048576) : Sw_szNode x k = some ((subN k (zN x), ()), ()) := by
  have hz : zN x = zA x.2.1 + zB x.2.2.1 + zB x.2.2.2.1 + zI x.2.2.2.2.1 := rfl
  rw [Sw_szNode_eq]
  rw [Sw_szAtom_val _ _ w.2.1 (by omega) (by omega)]
  simp only [Option.bind_some]
  rcases subN_cases k (zA x.2.1) with ⟨e1, a1⟩ | ⟨k1, e1, a1, d1⟩
  · rw [e1]; simp only [neg_dec, cond_true]; rw [subN_no (by rw [hz]; omega)]
  have c1 : decide (k1 < 0) = false := by simp; omega
  rw [e1]; simp only [c1, cond_false]
  have b2 : zB x.2.2.1 ≤ maxLen := w.2.2.1
  rw [maxLen_is] at b2
  obtain ⟨k2, e2, a2⟩ : ∃ m, IntKind.i64.wrap (k1 - ((ByteArray.size x.2.2.1 : Nat) : Int)) = m ∧ m = k1 - (zB x.2.2.1 : Int) := ⟨_, wrap_id (by unfold zB at b2; omega) (by unfold zB at b2; omega), rfl⟩
  simp only [e2]
  by_cases d2 : k2 < 0
  · simp only [d2, decide_true, cond_true]; rw [subN_no (by rw [hz]; omega)]
  simp only [d2, decide_false, cond_false]
  have b3 : zB x.2.2.2.1 ≤ maxLen := w.2.2.2.1
  rw [maxLen_is] at b3
  obtain ⟨k3, e3, a3⟩ : ∃ m, IntKind.i64.wrap (k2 - ((ByteArray.size x.2.2.2.1 : Nat) : Int)) = m ∧ m = k2 - (zB x.2.2.2.1 : Int) := ⟨_, wrap_id (by unfold zB at b3; omega) (by unfold zB at b3; omega), rfl⟩
  simp only [e3]
  by_cases d3 : k3 < 0
  · simp only [d3, decide_true, cond_true]; rw [subN_no (by rw [hz]; omega)]
  simp only [d3, decide_false, cond_false]
  rw [Sw_szIntS_val _ _ w.2.2.2.2.1 (by omega) (by omega)]
  simp only [Option.bind_some]
  rcases subN_cases k3 (zI x.2.2.2.2.1) with ⟨e4, a4⟩ | ⟨k4, e4, a4, d4⟩
  · rw [e4]; simp only [neg_dec, cond_true]; rw [subN_no (by rw [hz]; omega)]
  have c4 : decide (k4 < 0) = false := by simp; omega
  rw [e4]; simp only [c4, cond_false]
  rw [subN_yes (by rw [hz]; omega)]
  congr 3 <;> (rw [hz]; omega)
theorem Sw_szNodeS_val (x : List Nod) (k : Int) (w : WfD (.slice 0 pNod) x) (h0 : 0 ≤ k) (hk : k ≤ 1048576) : Sw_szNodeS x k = some ((subN k (zL zN x), ()), ()) := by
  have hl : x.length ≤ maxLen := w.1
  rw [maxLen_is] at hl
  rw [Sw_szNodeS_eq, wrap_id (by omega) (by omega)]
  have hz : zL zN x = x.length + (x.map zN).sum := rfl
  by_cases h : k - (x.length : Int) < 0
  · simp only [h, decide_true, cond_true]; rw [subN_no (by rw [hz]; omega)]
  · simp only [h, decide_false, cond_false]
    have := sz_loop x (WfD pNod) zN Sw_szNode (fun k i => Lw_szNodeS_5 x k i) (by omega) w.2 (fun y k w h0 hk => Sw_szNode_val y k w h0 hk) (fun i hi k => by
      rw [Lw_szNodeS_5_eq, getI_ok hi, lt_yes hi, wrap_succ (by omega)]; simp only [cond_true, Option.bind_some]) (fun k => by rw [Lw_szNodeS_5_eq, lt_no]; rfl) x.length 0 (k - (x.length : Int)) (by omega) (by omega) (by omega)
    rw [Int.natCast_zero] at this
    refine this.trans ?_
    rw [List.drop_zero, hz, subN_more (by omega)]
theorem Sw_szSupport_val (x : Sup) (k : Int) (w : WfD pSup x) (h0 : 0 ≤ k) (hk : k ≤ 1048576) : Sw_szSupport x k = some ((subN k (zP x), ()), ()) := by
  have hz : zP x = zC x.1 + zL zI x.2 := rfl
  rw [Sw_szSupport_eq]
  rw [Sw_szCell_val _ _ w.1 (by omega) (by omega)]
  simp only [Option.bind_some]
  rcases subN_cases k (zC x.1) with ⟨e1, a1⟩ | ⟨k1, e1, a1, d1⟩
  · rw [e1]; simp only [neg_dec, cond_true]; rw [subN_no (by rw [hz]; omega)]
  have c1 : decide (k1 < 0) = false := by simp; omega
  rw [e1]; simp only [c1, cond_false]
  rw [Sw_szIntSS_val _ _ w.2 (by omega) (by omega)]
  simp only [Option.bind_some]
  rcases subN_cases k1 (zL zI x.2) with ⟨e2, a2⟩ | ⟨k2, e2, a2, d2⟩
  · rw [e2]; simp only [neg_dec, cond_true]; rw [subN_no (by rw [hz]; omega)]
  have c2 : decide (k2 < 0) = false := by simp; omega
  rw [e2]; simp only [c2, cond_false]
  rw [subN_yes (by rw [hz]; omega)]
  congr 3 <;> (rw [hz]; omega)
theorem Sw_szSupportS_val (x : List Sup) (k : Int) (w : WfD (.slice 0 pSup) x) (h0 : 0 ≤ k) (hk : k ≤ 1048576) : Sw_szSupportS x k = some ((subN k (zL zP x), ()), ()) := by
  have hl : x.length ≤ maxLen := w.1
  rw [maxLen_is] at hl
  rw [Sw_szSupportS_eq, wrap_id (by omega) (by omega)]
  have hz : zL zP x = x.length + (x.map zP).sum := rfl
  by_cases h : k - (x.length : Int) < 0
  · simp only [h, decide_true, cond_true]; rw [subN_no (by rw [hz]; omega)]
  · simp only [h, decide_false, cond_false]
    have := sz_loop x (WfD pSup) zP Sw_szSupport (fun k i => Lw_szSupportS_5 x k i) (by omega) w.2 (fun y k w h0 hk => Sw_szSupport_val y k w h0 hk) (fun i hi k => by
      rw [Lw_szSupportS_5_eq, getI_ok hi, lt_yes hi, wrap_succ (by omega)]; simp only [cond_true, Option.bind_some]) (fun k => by rw [Lw_szSupportS_5_eq, lt_no]; rfl) x.length 0 (k - (x.length : Int)) (by omega) (by omega) (by omega)
    rw [Int.natCast_zero] at this
    refine this.trans ?_
    rw [List.drop_zero, hz, subN_more (by omega)]
theorem Sw_szView_val (x : Viw) (k : Int) (w : WfD pViw x) (h0 : 0 ≤ k) (hk : k ≤ 1048576) : Sw_szView x k = some ((subN k (zV x), ()), ()) := by
  have hz : zV x = zL zN x.1 + zL zP x.2 := rfl
  rw [Sw_szView_eq]
  rw [Sw_szNodeS_val _ _ w.1 (by omega) (by omega)]
  simp only [Option.bind_some]
  rcases subN_cases k (zL zN x.1) with ⟨e1, a1⟩ | ⟨k1, e1, a1, d1⟩
  · rw [e1]; simp only [neg_dec, cond_true]; rw [subN_no (by rw [hz]; omega)]
  have c1 : decide (k1 < 0) = false := by simp; omega
  rw [e1]; simp only [c1, cond_false]
  rw [Sw_szSupportS_val _ _ w.2 (by omega) (by omega)]
  simp only [Option.bind_some]
  rcases subN_cases k1 (zL zP x.2) with ⟨e2, a2⟩ | ⟨k2, e2, a2, d2⟩
  · rw [e2]; simp only [neg_dec, cond_true]; rw [subN_no (by rw [hz]; omega)]
  have c2 : decide (k2 < 0) = false := by simp; omega
  rw [e2]; simp only [c2, cond_false]
  rw [subN_yes (by rw [hz]; omega)]
  congr 3 <;> (rw [hz]; omega)
theorem Sw_toIntS_val (x : List Int) (h : zI x ≤ 68719476736) : Sw_toIntS x = some ((x, ()), ()) := by
  have hl : x.length ≤ 68719476736 := h
  rw [Sw_toIntS_eq, mk_ok x 8 hl (by omega) (by omega)]
  exact copy0 x (fun y => some ((y, ()), ())) (fun v i => Lw_toIntS_3 x v i) hl (fun y _ => rfl) (fun i hi v hv => by
    rw [Lw_toIntS_3_eq, lt_yes hi, wrap_succ (by omega)]
    simp only [getI_ok hi, getI_ok (show i < v.length by omega), cond_true, Option.bind_some, Int.toNat_natCast]) (fun v => by rw [Lw_toIntS_3_eq, lt_no]; rfl) _ (by simp)
theorem Sw_toIntSS_val (x : List (List Int)) (h : zL zI x ≤ 68719476736) : Sw_toIntSS x = some ((x, ()), ()) := by
  have hl : x.length ≤ 68719476736 := Nat.le_trans (zL_len _ x) h
  rw [Sw_toIntSS_eq, mk_ok x 24 hl (by omega) (by omega)]
  exact copy0 x Sw_toIntS (fun v i => Lw_toIntSS_3 x v i) hl (fun y hy => Sw_toIntS_val y (Nat.le_trans (zL_mem _ hy) h)) (fun i hi v hv => by
    rw [Lw_toIntSS_3_eq, lt_yes hi, wrap_succ (by omega)]
    simp only [getI_ok hi, getI_ok (show i < v.length by omega), cond_true, Option.bind_some, Int.toNat_natCast]) (fun v => by rw [Lw_toIntSS_3_eq, lt_no]; rfl) _ (by simp)
theorem Sw_toAtom_val (x : Atm) (h : zA x ≤ 68719476736) : Sw_toAtom x = some ((x, ()), ()) := by
  have hz : zA x = zI x.1 := rfl
  rw [Sw_toAtom_eq, Sw_toIntS_val _ (by omega)]; rfl
theorem Sw_toAtomS_val (x : List Atm) (h : zL zA x ≤ 68719476736) : Sw_toAtomS x = some ((x, ()), ()) := by
  have hl : x.length ≤ 68719476736 := Nat.le_trans (zL_len _ x) h
  rw [Sw_toAtomS_eq, mk_ok x 40 hl (by omega) (by omega)]
  exact copy0 x Sw_toAtom (fun v i => Lw_toAtomS_3 x v i) hl (fun y hy => Sw_toAtom_val y (Nat.le_trans (zL_mem _ hy) h)) (fun i hi v hv => by
    rw [Lw_toAtomS_3_eq, lt_yes hi, wrap_succ (by omega)]
    simp only [getI_ok hi, getI_ok (show i < v.length by omega), cond_true, Option.bind_some, Int.toNat_natCast]) (fun v => by rw [Lw_toAtomS_3_eq, lt_no]; rfl) _ (by simp)
theorem Sw_toCell_val (x : Cel) (h : zC x ≤ 68719476736) : Sw_toCell x = some ((x, ()), ()) := by
  have hz : zC x = zL zA x.2 := rfl
  rw [Sw_toCell_eq, Sw_toAtomS_val _ (by omega)]; rfl
theorem Sw_toRow_val (x : Rw) (h : zR x ≤ 68719476736) : Sw_toRow x = some ((x, ()), ()) := by
  have hz : zR x = zB x.1 + zC x.2 := rfl
  rw [Sw_toRow_eq, Sw_toCell_val _ (by omega)]; rfl
theorem Sw_toRowS_val (x : List Rw) (h : zL zR x ≤ 68719476736) : Sw_toRowS x = some ((x, ()), ()) := by
  have hl : x.length ≤ 68719476736 := Nat.le_trans (zL_len _ x) h
  rw [Sw_toRowS_eq, mk_ok x 48 hl (by omega) (by omega)]
  exact copy0 x Sw_toRow (fun v i => Lw_toRowS_3 x v i) hl (fun y hy => Sw_toRow_val y (Nat.le_trans (zL_mem _ hy) h)) (fun i hi v hv => by
    rw [Lw_toRowS_3_eq, lt_yes hi, wrap_succ (by omega)]
    simp only [getI_ok hi, getI_ok (show i < v.length by omega), cond_true, Option.bind_some, Int.toNat_natCast]) (fun v => by rw [Lw_toRowS_3_eq, lt_no]; rfl) _ (by simp)
theorem Sw_toRelation_val (x : Rel) (h : zQ x ≤ 68719476736) : Sw_toRelation x = some ((x, ()), ()) := by
  have hz : zQ x = zB x.1 + zL zR x.2.2 := rfl
  rw [Sw_toRelation_eq, Sw_toRowS_val _ (by omega)]; rfl
theorem Sw_toRelationS_val (x : List Rel) (h : zL zQ x ≤ 68719476736) : Sw_toRelationS x = some ((x, ()), ()) := by
  have hl : x.length ≤ 68719476736 := Nat.le_trans (zL_len _ x) h
  rw [Sw_toRelationS_eq, mk_ok x 48 hl (by omega) (by omega)]
  exact copy0 x Sw_toRelation (fun v i => Lw_toRelationS_3 x v i) hl (fun y hy => Sw_toRelation_val y (Nat.le_trans (zL_mem _ hy) h)) (fun i hi v hv => by
    rw [Lw_toRelationS_3_eq, lt_yes hi, wrap_succ (by omega)]
    simp only [getI_ok hi, getI_ok (show i < v.length by omega), cond_true, Option.bind_some, Int.toNat_natCast]) (fun v => by rw [Lw_toRelationS_3_eq, lt_no]; rfl) _ (by simp)
theorem Sw_toNode_val (x : Nod) (h : zN x ≤ 68719476736) : Sw_toNode x = some ((x, ()), ()) := by
  have hz : zN x = zA x.2.1 + zB x.2.2.1 + zB x.2.2.2.1 + zI x.2.2.2.2.1 := rfl
  rw [Sw_toNode_eq, Sw_toAtom_val _ (by omega), Sw_toIntS_val _ (by omega)]; rfl
theorem Sw_toNodeS_val (x : List Nod) (h : zL zN x ≤ 68719476736) : Sw_toNodeS x = some ((x, ()), ()) := by
  have hl : x.length ≤ 68719476736 := Nat.le_trans (zL_len _ x) h
  rw [Sw_toNodeS_eq, mk_ok x 128 hl (by omega) (by omega)]
  exact copy0 x Sw_toNode (fun v i => Lw_toNodeS_3 x v i) hl (fun y hy => Sw_toNode_val y (Nat.le_trans (zL_mem _ hy) h)) (fun i hi v hv => by
    rw [Lw_toNodeS_3_eq, lt_yes hi, wrap_succ (by omega)]
    simp only [getI_ok hi, getI_ok (show i < v.length by omega), cond_true, Option.bind_some, Int.toNat_natCast]) (fun v => by rw [Lw_toNodeS_3_eq, lt_no]; rfl) _ (by simp)
theorem Sw_toSupport_val (x : Sup) (h : zP x ≤ 68719476736) : Sw_toSupport x = some ((x, ()), ()) := by
  have hz : zP x = zC x.1 + zL zI x.2 := rfl
  rw [Sw_toSupport_eq, Sw_toCell_val _ (by omega), Sw_toIntSS_val _ (by omega)]; rfl
theorem Sw_toSupportS_val (x : List Sup) (h : zL zP x ≤ 68719476736) : Sw_toSupportS x = some ((x, ()), ()) := by
  have hl : x.length ≤ 68719476736 := Nat.le_trans (zL_len _ x) h
  rw [Sw_toSupportS_eq, mk_ok x 56 hl (by omega) (by omega)]
  exact copy0 x Sw_toSupport (fun v i => Lw_toSupportS_3 x v i) hl (fun y hy => Sw_toSupport_val y (Nat.le_trans (zL_mem _ hy) h)) (fun i hi v hv => by
    rw [Lw_toSupportS_3_eq, lt_yes hi, wrap_succ (by omega)]
    simp only [getI_ok hi, getI_ok (show i < v.length by omega), cond_true, Option.bind_some, Int.toNat_natCast]) (fun v => by rw [Lw_toSupportS_3_eq, lt_no]; rfl) _ (by simp)
theorem Sw_toView_val (x : Viw) (h : zV x ≤ 68719476736) : Sw_toView x = some ((x, ()), ()) := by
  have hz : zV x = zL zN x.1 + zL zP x.2 := rfl
  rw [Sw_toView_eq, Sw_toNodeS_val _ (by omega), Sw_toSupportS_val _ (by omega)]; rfl
theorem Sw_eqIntS_val (x : List Int) (h : zI x ≤ 68719476736) : Sw_eqIntS x x = some ((true, ()), ()) := by
  have hl : x.length ≤ 68719476736 := h
  rw [Sw_eqIntS_eq]
  simp only [bne_self_eq_false, cond_false]
  refine eq_loop x (some ((true, ()), ())) (fun i => Lw_eqIntS_4 x x i) hl (fun i hi => ?_) ?_
  · rw [Lw_eqIntS_4_eq, lt_yes hi, wrap_succ (by omega)]
    simp only [getI_ok hi, cond_true, Option.bind_some, bne_self_eq_false, beq_self_eq_true, Bool.not_true, cond_false]
  · rw [Lw_eqIntS_4_eq, lt_no]; rfl
theorem Sw_eqIntSS_val (x : List (List Int)) (h : zL zI x ≤ 68719476736) : Sw_eqIntSS x x = some ((true, ()), ()) := by
  have hl : x.length ≤ 68719476736 := Nat.le_trans (zL_len _ x) h
  rw [Sw_eqIntSS_eq]
  simp only [bne_self_eq_false, cond_false]
  refine eq_loop x (some ((true, ()), ())) (fun i => Lw_eqIntSS_4 x x i) hl (fun i hi => ?_) ?_
  · rw [Lw_eqIntSS_4_eq, lt_yes hi, wrap_succ (by omega)]
    simp only [getI_ok hi, cond_true, Option.bind_some, Sw_eqIntS_val _ (Nat.le_trans (zL_mem _ (List.getElem_mem hi)) h), Bool.not_true, cond_false]
  · rw [Lw_eqIntSS_4_eq, lt_no]; rfl
theorem Sw_eqAtom_val (x : Atm) (h : zA x ≤ 68719476736) : Sw_eqAtom x x = some ((true, ()), ()) := by
  have hz : zA x = zI x.1 := rfl
  rw [Sw_eqAtom_eq]
  simp only [bne_self_eq_false, beq_self_eq_true, Bool.not_true, cond_false, Option.bind_some, Sw_eqIntS_val x.1 (by omega)]
theorem Sw_eqAtomS_val (x : List Atm) (h : zL zA x ≤ 68719476736) : Sw_eqAtomS x x = some ((true, ()), ()) := by
  have hl : x.length ≤ 68719476736 := Nat.le_trans (zL_len _ x) h
  rw [Sw_eqAtomS_eq]
  simp only [bne_self_eq_false, cond_false]
  refine eq_loop x (some ((true, ()), ())) (fun i => Lw_eqAtomS_4 x x i) hl (fun i hi => ?_) ?_
  · rw [Lw_eqAtomS_4_eq, lt_yes hi, wrap_succ (by omega)]
    simp only [getI_ok hi, cond_true, Option.bind_some, Sw_eqAtom_val _ (Nat.le_trans (zL_mem _ (List.getElem_mem hi)) h), Bool.not_true, cond_false]
  · rw [Lw_eqAtomS_4_eq, lt_no]; rfl
theorem Sw_eqCell_val (x : Cel) (h : zC x ≤ 68719476736) : Sw_eqCell x x = some ((true, ()), ()) := by
  have hz : zC x = zL zA x.2 := rfl
  rw [Sw_eqCell_eq]
  simp only [bne_self_eq_false, beq_self_eq_true, Bool.not_true, cond_false, Option.bind_some, Sw_eqAtomS_val x.2 (by omega)]
theorem Sw_eqRow_val (x : Rw) (h : zR x ≤ 68719476736) : Sw_eqRow x x = some ((true, ()), ()) := by
  have hz : zR x = zB x.1 + zC x.2 := rfl
  rw [Sw_eqRow_eq]
  simp only [bne_self_eq_false, beq_self_eq_true, Bool.not_true, cond_false, Option.bind_some, Sw_eqCell_val x.2 (by omega)]
theorem Sw_eqRowS_val (x : List Rw) (h : zL zR x ≤ 68719476736) : Sw_eqRowS x x = some ((true, ()), ()) := by
  have hl : x.length ≤ 68719476736 := Nat.le_trans (zL_len _ x) h
  rw [Sw_eqRowS_eq]
  simp only [bne_self_eq_false, cond_false]
  refine eq_loop x (some ((true, ()), ())) (fun i => Lw_eqRowS_4 x x i) hl (fun i hi => ?_) ?_
  · rw [Lw_eqRowS_4_eq, lt_yes hi, wrap_succ (by omega)]
    simp only [getI_ok hi, cond_true, Option.bind_some, Sw_eqRow_val _ (Nat.le_trans (zL_mem _ (List.getElem_mem hi)) h), Bool.not_true, cond_false]
  · rw [Lw_eqRowS_4_eq, lt_no]; rfl
theorem Sw_eqRelation_val (x : Rel) (h : zQ x ≤ 68719476736) : Sw_eqRelation x x = some ((true, ()), ()) := by
  have hz : zQ x = zB x.1 + zL zR x.2.2 := rfl
  rw [Sw_eqRelation_eq]
  simp only [bne_self_eq_false, beq_self_eq_true, Bool.not_true, cond_false, Option.bind_some, Sw_eqRowS_val x.2.2 (by omega)]
theorem Sw_eqRelationS_val (x : List Rel) (h : zL zQ x ≤ 68719476736) : Sw_eqRelationS x x = some ((true, ()), ()) := by
  have hl : x.length ≤ 68719476736 := Nat.le_trans (zL_len _ x) h
  rw [Sw_eqRelationS_eq]
  simp only [bne_self_eq_false, cond_false]
  refine eq_loop x (some ((true, ()), ())) (fun i => Lw_eqRelationS_4 x x i) hl (fun i hi => ?_) ?_
  · rw [Lw_eqRelationS_4_eq, lt_yes hi, wrap_succ (by omega)]
    simp only [getI_ok hi, cond_true, Option.bind_some, Sw_eqRelation_val _ (Nat.le_trans (zL_mem _ (List.getElem_mem hi)) h), Bool.not_true, cond_false]
  · rw [Lw_eqRelationS_4_eq, lt_no]; rfl
theorem Sw_eqNode_val (x : Nod) (h : zN x ≤ 68719476736) : Sw_eqNode x x = some ((true, ()), ()) := by
  have hz : zN x = zA x.2.1 + zB x.2.2.1 + zB x.2.2.2.1 + zI x.2.2.2.2.1 := rfl
  rw [Sw_eqNode_eq]
  simp only [bne_self_eq_false, beq_self_eq_true, Bool.not_true, cond_false, Option.bind_some, Sw_eqAtom_val x.2.1 (by omega), Sw_eqIntS_val x.2.2.2.2.1 (by omega)]
theorem Sw_eqNodeS_val (x : List Nod) (h : zL zN x ≤ 68719476736) : Sw_eqNodeS x x = some ((true, ()), ()) := by
  have hl : x.length ≤ 68719476736 := Nat.le_trans (zL_len _ x) h
  rw [Sw_eqNodeS_eq]
  simp only [bne_self_eq_false, cond_false]
  refine eq_loop x (some ((true, ()), ())) (fun i => Lw_eqNodeS_4 x x i) hl (fun i hi => ?_) ?_
  · rw [Lw_eqNodeS_4_eq, lt_yes hi, wrap_succ (by omega)]
    simp only [getI_ok hi, cond_true, Option.bind_some, Sw_eqNode_val _ (Nat.le_trans (zL_mem _ (List.getElem_mem hi)) h), Bool.not_true, cond_false]
  · rw [Lw_eqNodeS_4_eq, lt_no]; rfl
theorem Sw_eqSupport_val (x : Sup) (h : zP x ≤ 68719476736) : Sw_eqSupport x x = some ((true, ()), ()) := by
  have hz : zP x = zC x.1 + zL zI x.2 := rfl
  rw [Sw_eqSupport_eq]
  simp only [bne_self_eq_false, beq_self_eq_true, Bool.not_true, cond_false, Option.bind_some, Sw_eqCell_val x.1 (by omega), Sw_eqIntSS_val x.2 (by omega)]
theorem Sw_eqSupportS_val (x : List Sup) (h : zL zP x ≤ 68719476736) : Sw_eqSupportS x x = some ((true, ()), ()) := by
  have hl : x.length ≤ 68719476736 := Nat.le_trans (zL_len _ x) h
  rw [Sw_eqSupportS_eq]
  simp only [bne_self_eq_false, cond_false]
  refine eq_loop x (some ((true, ()), ())) (fun i => Lw_eqSupportS_4 x x i) hl (fun i hi => ?_) ?_
  · rw [Lw_eqSupportS_4_eq, lt_yes hi, wrap_succ (by omega)]
    simp only [getI_ok hi, cond_true, Option.bind_some, Sw_eqSupport_val _ (Nat.le_trans (zL_mem _ (List.getElem_mem hi)) h), Bool.not_true, cond_false]
  · rw [Lw_eqSupportS_4_eq, lt_no]; rfl
theorem Sw_eqView_val (x : Viw) (h : zV x ≤ 68719476736) : Sw_eqView x x = some ((true, ()), ()) := by
  have hz : zV x = zL zN x.1 + zL zP x.2 := rfl
  rw [Sw_eqView_eq]
  simp only [bne_self_eq_false, beq_self_eq_true, Bool.not_true, cond_false, Option.bind_some, Sw_eqNodeS_val x.1 (by omega), Sw_eqSupportS_val x.2 (by omega)]

/-! ### marks -/
def mL {α : Type} (m : α → Int → α × Int) : List α → Int → List α × Int
  | [], k => ([], k)
  | y :: l, k => ((m y k).1 :: (mL m l (m y k).2).1, (mL m l (m y k).2).2)
def mI (_ : Int) (k : Int) : Int × Int := (k, k + 1)
def Md {α : Type} (m : α → Int → α × Int) (z : α → Nat) : Prop := ∀ y k, k ≤ (m y k).2 ∧ (m y k).2 ≤ k + 12 * z y + 12
theorem mL_md {α : Type} {m : α → Int → α × Int} {z : α → Nat} (h : Md m z) : ∀ (x : List α) (k : Int), k ≤ (mL m x k).2 ∧ (mL m x k).2 ≤ k + 12 * zL z x
  | [], k => by simp [mL, zL]
  | y :: l, k => by
    have h1 := h y k
    have h2 := mL_md h l (m y k).2
    have e : zL z (y :: l) = 1 + z y + zL z l := by simp only [zL, List.length_cons, List.map_cons, List.sum_cons]; omega
    simp only [mL]
    omega
theorem mdI : Md mI (fun _ => 0) := fun y k => by unfold mI; simp only []; omega
theorem mL_mdI (x : List Int) (k : Int) : k ≤ (mL mI x k).2 ∧ (mL mI x k).2 ≤ k + 12 * zI x := by
  have := mL_md mdI x k
  have e : zL (fun _ : Int => 0) x = zI x := by
    unfold zL zI
    have : ∀ l : List Int, (l.map (fun _ => 0)).sum = 0 := fun l => by induction l <;> simp_all
    rw [this]; rfl
  rw [e] at this
  exact this
theorem mL_len {α : Type} (m : α → Int → α × Int) : ∀ (x : List α) (k : Int), (mL m x k).1.length = x.length
  | [], _ => rfl
  | y :: l, k => by simp only [mL, List.length_cons, mL_len m l]
theorem mark_loop {α : Type} (m : α → Int → α × Int) (z : α → Nat) (hm : ∀ y k, k ≤ (m y k).2) (f : List α → Int → Int → Option ((Int × PUnit) × List α × PUnit))
    (h1 : ∀ (v : List α) (k : Int) (i : Nat) (hi : i < v.length), v.length ≤ 68719476736 → 0 ≤ k → (m v[i] k).2 ≤ 1000000000000000000 → z v[i] ≤ 68719476736 → f v k (i : Int) = f (v.set i (m v[i] k).1) (m v[i] k).2 ((i + 1 : Nat) : Int))
    (h2 : ∀ v k, f v k (v.length : Int) = some ((k, ()), v, ())) (hmL : ∀ x k, k ≤ (mL m x k).2) :
    ∀ (x pre : List α) (k : Int), 0 ≤ k → (mL m x k).2 ≤ 1000000000000000000 → (pre ++ x).length ≤ 68719476736 → (∀ y ∈ x, z y ≤ 68719476736) → f (pre ++ x) k (pre.length : Int) = some (((mL m x k).2, ()), pre ++ (mL m x k).1, ())
  | [], pre, k, _, _, _, _ => by
    rw [List.append_nil, h2]
    simp [mL]
  | y :: l, pre, k, h0, hk, hl, hz => by
    have hy : (pre ++ y :: l)[pre.length]'(by simp) = y := by simp
    have a1 := hm y k
    have a2 := hmL l (m y k).2
    simp only [mL] at hk ⊢
    rw [h1 (pre ++ y :: l) k pre.length (by simp) hl h0 (by rw [hy]; omega) (by rw [hy]; exact hz y (by simp)), hy]
    have e : (pre ++ y :: l).set pre.length (m y k).1 = (pre ++ [(m y k).1]) ++ l := by simp
    rw [e]
    have := mark_loop m z hm f h1 h2 hmL l (pre ++ [(m y k).1]) (m y k).2 (by omega) hk (by simp at hl ⊢; omega) (fun q hq => hz q (List.mem_cons_of_mem _ hq))
    rw [List.length_append, List.length_singleton] at this
    rw [this, List.append_assoc, List.singleton_append]
theorem mark0 {α : Type} (m : α → Int → α × Int) (z : α → Nat) (hm : ∀ y k, k ≤ (m y k).2) (f : List α → Int → Int → Option ((Int × PUnit) × List α × PUnit)) (hmL : ∀ x k, k ≤ (mL m x k).2) (x : List α) (k : Int) (h0 : 0 ≤ k) (hk : (mL m x k).2 ≤ 1000000000000000000) (hl : x.length ≤ 68719476736) (hz : ∀ y ∈ x, z y ≤ 68719476736)
    (h1 : ∀ (v : List α) (k : Int) (i : Nat) (hi : i < v.length), v.length ≤ 68719476736 → 0 ≤ k → (m v[i] k).2 ≤ 1000000000000000000 → z v[i] ≤ 68719476736 → f v k (i : Int) = f (v.set i (m v[i] k).1) (m v[i] k).2 ((i + 1 : Nat) : Int))
    (h2 : ∀ v k, f v k (v.length : Int) = some ((k, ()), v, ())) :
    f x k 0 = some (((mL m x k).2, ()), (mL m x k).1, ()) := by
  have := mark_loop m z hm f h1 h2 hmL x [] k h0 hk (by simpa using hl) hz
  simpa using this
theorem held_loop {α : Type} (m : α → Int → α × Int) (z : α → Nat) (hm : ∀ y k, k ≤ (m y k).2) (f : List α → Int → Int → Option ((Int × PUnit) × PUnit))
    (h1 : ∀ (v : List α) (k : Int) (i : Nat) (hi : i < v.length) (y : α), v[i] = (m y k).1 → v.length ≤ 68719476736 → 0 ≤ k → (m y k).2 ≤ 1000000000000000000 → z y ≤ 68719476736 → f v k (i : Int) = f v (m y k).2 ((i + 1 : Nat) : Int))
    (h2 : ∀ v k, f v k (v.length : Int) = some ((k, ()), ())) (hmL : ∀ x k, k ≤ (mL m x k).2) :
    ∀ (x pre : List α) (k : Int), 0 ≤ k → (mL m x k).2 ≤ 1000000000000000000 → (pre ++ x).length ≤ 68719476736 → (∀ y ∈ x, z y ≤ 68719476736) → f (pre ++ (mL m x k).1) k (pre.length : Int) = some (((mL m x k).2, ()), ())
  | [], pre, k, _, _, _, _ => by
    simp only [mL, List.append_nil]
    rw [h2]
  | y :: l, pre, k, h0, hk, hl, hz => by
    have a1 := hm y k
    have a2 := hmL l (m y k).2
    simp only [mL] at hk ⊢
    rw [h1 _ k pre.length (by simp) y (by simp) (by simp [mL_len] at hl ⊢; omega) h0 (by omega) (hz y (by simp))]
    have := held_loop m z hm f h1 h2 hmL l (pre ++ [(m y k).1]) (m y k).2 (by omega) hk (by simp at hl ⊢; omega) (fun q hq => hz q (List.mem_cons_of_mem _ hq))
    rw [List.length_append, List.length_singleton, List.append_assoc, List.singleton_append] at this
    exact this
theorem held0 {α : Type} (m : α → Int → α × Int) (z : α → Nat) (hm : ∀ y k, k ≤ (m y k).2) (f : List α → Int → Int → Option ((Int × PUnit) × PUnit)) (hmL : ∀ x k, k ≤ (mL m x k).2) (x : List α) (k : Int) (h0 : 0 ≤ k) (hk : (mL m x k).2 ≤ 1000000000000000000) (hl : x.length ≤ 68719476736) (hz : ∀ y ∈ x, z y ≤ 68719476736)
    (h1 : ∀ (v : List α) (k : Int) (i : Nat) (hi : i < v.length) (y : α), v[i] = (m y k).1 → v.length ≤ 68719476736 → 0 ≤ k → (m y k).2 ≤ 1000000000000000000 → z y ≤ 68719476736 → f v k (i : Int) = f v (m y k).2 ((i + 1 : Nat) : Int))
    (h2 : ∀ v k, f v k (v.length : Int) = some ((k, ()), ())) :
    f (mL m x k).1 k 0 = some (((mL m x k).2, ()), ()) := by
  have := held_loop m z hm f h1 h2 hmL x [] k h0 hk (by simpa using hl) hz
  simpa using this

theorem strOf_one (b : Int) : (strOf [b]).size = 1 := rfl
theorem Lw_markText_4_val : ∀ (n : Nat) (k : Int) (s : ByteArray), 0 ≤ k → k < 10 ^ n → k ≤ 1000000000000000000 → s.size + n ≤ 1000 → ∃ r, Lw_markText_4 k s = some ((r, ()), ())
  | 0, k, s, h0, h1, hb, hs => by
    have hk : k = 0 := by simp at h1; omega
    rw [Lw_markText_4_eq, hk]
    have e : decide ((ByteArray.mk #[109]).size + s.size ≤ 140737488355328) = true := by
      have : (ByteArray.mk #[109]).size = 1 := rfl
      rw [this]; simp; omega
    simp only [e, cond_true]
    exact ⟨_, rfl⟩
  | n + 1, k, s, h0, h1, hb, hs => by
    rw [Lw_markText_4_eq]
    by_cases hk : k > 0
    · have e : decide ((strOf [IntKind.u8.wrap (IntKind.i64.wrap (48 + k.tmod 10))]).size + s.size ≤ 140737488355328) = true := by
        rw [strOf_one]; simp; omega
      have hq : k.tdiv 10 = k / 10 := Int.tdiv_eq_ediv_of_nonneg h0
      have h3 : (10 : Int) ^ (n + 1) = 10 ^ n * 10 := Int.pow_succ _ _
      simp only [hk, decide_true, cond_true, e]
      rw [hq, wrap_id (by omega) (by omega)]
      exact Lw_markText_4_val n (k / 10) _ (by omega) (by omega) (by omega) (by rw [ByteArray.size_append, strOf_one]; omega)
    · have e : decide ((ByteArray.mk #[109]).size + s.size ≤ 140737488355328) = true := by
        have : (ByteArray.mk #[109]).size = 1 := rfl
        rw [this]; simp; omega
      simp only [hk, decide_false, cond_false, e, cond_true]
      exact ⟨_, rfl⟩
noncomputable def mtx (k : Int) : ByteArray := match Sw_markText k with
  | some r => r.1.1
  | none => ByteArray.empty
theorem Sw_markText_val (k : Int) (h0 : 0 ≤ k) (h1 : k ≤ 1000000000000000000) : Sw_markText k = some ((mtx k, ()), ()) := by
  have : ∃ r, Sw_markText k = some ((r, ()), ()) := by
    rw [Sw_markText_eq]
    by_cases h : k ≤ 0
    · simp only [h, decide_true, cond_true]; exact ⟨_, rfl⟩
    · simp only [h, decide_false, cond_false]
      have e1 : (10 : Int) ^ 19 = 10000000000000000000 := by decide
      have e2 : (ByteArray.mk #[]).size = 0 := rfl
      exact Lw_markText_4_val 19 k (ByteArray.mk #[]) h0 (by omega) h1 (by omega)
  obtain ⟨r, hr⟩ := this
  unfold mtx
  rw [hr]
theorem Sw_markIntS_val (x : List Int) (k : Int) (h0 : 0 ≤ k) (hk : (mL mI x k).2 ≤ 1000000000000000000) (hl : x.length ≤ 68719476736) : Sw_markIntS x k = some (((mL mI x k).2, ()), (mL mI x k).1, ()) := by
  rw [Sw_markIntS_eq]
  refine mark0 mI (fun _ => 0) (fun y k => (mdI y k).1) (fun v k i => Lw_markIntS_2 v k i) (fun x k => (mL_mdI x k).1) x k h0 hk hl (fun _ _ => Nat.zero_le _) (fun v k i hi hl h0 hk hz => ?_) (fun v k => by rw [Lw_markIntS_2_eq, lt_no]; rfl)
  have hk2 : k + 1 ≤ 1000000000000000000 := hk
  have w0 : IntKind.i64.wrap (k + 1) = k + 1 := wrap_up (by omega) (by omega)
  rw [Lw_markIntS_2_eq, lt_yes hi, wrap_succ (by omega)]
  simp only [cond_true, Option.bind_some, getI_ok hi, getI_set hi, List.set_set, Int.toNat_natCast, w0]
  try rfl
theorem Sw_heldIntS_val (x : List Int) (k : Int) (h0 : 0 ≤ k) (hk : (mL mI x k).2 ≤ 1000000000000000000) (hl : x.length ≤ 68719476736) : Sw_heldIntS (mL mI x k).1 k = some (((mL mI x k).2, ()), ()) := by
  rw [Sw_heldIntS_eq]
  refine held0 mI (fun _ => 0) (fun y k => (mdI y k).1) (fun v k i => Lw_heldIntS_2 v k i) (fun x k => (mL_mdI x k).1) x k h0 hk hl (fun _ _ => Nat.zero_le _) (fun v k i hi y hy hl h0 hk hz => ?_) (fun v k => by rw [Lw_heldIntS_2_eq, lt_no]; rfl)
  have hk2 : k + 1 ≤ 1000000000000000000 := hk
  have w0 : IntKind.i64.wrap (k + 1) = k + 1 := wrap_up (by omega) (by omega)
  rw [Lw_heldIntS_2_eq, lt_yes hi, getI_ok hi, hy, wrap_succ (by omega)]
  simp only [mI, cond_true, Option.bind_some, bne_self_eq_false, beq_self_eq_true, Bool.not_true, cond_false, w0]
theorem mdL_IntS : Md (mL mI) zI := fun x k => by
  have := mL_mdI x k
  omega
theorem Sw_markIntSS_val (x : List (List Int)) (k : Int) (h0 : 0 ≤ k) (hk : (mL (mL mI) x k).2 ≤ 1000000000000000000) (hz : zL zI x ≤ 68719476736) : Sw_markIntSS x k = some (((mL (mL mI) x k).2, ()), (mL (mL mI) x k).1, ()) := by
  rw [Sw_markIntSS_eq]
  refine mark0 (mL mI) zI (fun y k => (mdL_IntS y k).1) (fun v k i => Lw_markIntSS_2 v k i) (fun x k => (mL_md mdL_IntS x k).1) x k h0 hk (Nat.le_trans (zL_len _ x) hz) (fun y hy => Nat.le_trans (zL_mem _ hy) hz) (fun v k i hi hl h0 hk hz => ?_) (fun v k => by rw [Lw_markIntSS_2_eq, lt_no]; rfl)
  have q0 := mL_mdI v[i] k
  have hk2 : (mL mI v[i] k).2 ≤ 1000000000000000000 := hk
  have s0 := Sw_markIntS_val v[i] k (by omega) (by omega) (by have hz3 : zI v[i] ≤ 68719476736 := hz; unfold zI at hz3; omega)
  rw [Lw_markIntSS_2_eq, lt_yes hi, wrap_succ (by omega)]
  simp only [cond_true, Option.bind_some, getI_ok hi, getI_set hi, List.set_set, Int.toNat_natCast, s0]
  try rfl
theorem Sw_heldIntSS_val (x : List (List Int)) (k : Int) (h0 : 0 ≤ k) (hk : (mL (mL mI) x k).2 ≤ 1000000000000000000) (hz : zL zI x ≤ 68719476736) : Sw_heldIntSS (mL (mL mI) x k).1 k = some (((mL (mL mI) x k).2, ()), ()) := by
  rw [Sw_heldIntSS_eq]
  refine held0 (mL mI) zI (fun y k => (mdL_IntS y k).1) (fun v k i => Lw_heldIntSS_2 v k i) (fun x k => (mL_md mdL_IntS x k).1) x k h0 hk (Nat.le_trans (zL_len _ x) hz) (fun y hy => Nat.le_trans (zL_mem _ hy) hz) (fun v k i hi y hy hl h0 hk hz => ?_) (fun v k => by rw [Lw_heldIntSS_2_eq, lt_no]; rfl)
  have q0 := mL_mdI y k
  have hk2 : (mL mI y k).2 ≤ 1000000000000000000 := hk
  have s0 := Sw_heldIntS_val y k (by omega) (by omega) (by have hz3 : zI y ≤ 68719476736 := hz; unfold zI at hz3; omega)
  have n0 : decide ((mL mI y k).2 < 0) = false := decide_eq_false (by omega)
  rw [Lw_heldIntSS_2_eq, lt_yes hi, getI_ok hi, hy, wrap_succ (by omega)]
  simp only [cond_true, Option.bind_some, bne_self_eq_false, beq_self_eq_true, Bool.not_true, cond_false, s0, n0]
noncomputable def mA (x : Atm) (k : Int) : Atm × Int := (((mL mI x.1 k).1, (mL mI x.1 k).2, ((mL mI x.1 k).2 + 1).tmod 3 == 0), (mL mI x.1 k).2 + 1 + 1)
theorem mdA : Md mA zA := fun x k => by
  have q0 := mL_mdI x.1 k
  have hz : zA x = zI x.1 := rfl
  unfold mA
  simp only []
  omega
theorem Sw_markAtomS_val (x : List Atm) (k : Int) (h0 : 0 ≤ k) (hk : (mL mA x k).2 ≤ 1000000000000000000) (hz : zL zA x ≤ 68719476736) : Sw_markAtomS x k = some (((mL mA x k).2, ()), (mL mA x k).1, ()) := by
  rw [Sw_markAtomS_eq]
  refine mark0 mA zA (fun y k => (mdA y k).1) (fun v k i => Lw_markAtomS_2 v k i) (fun x k => (mL_md mdA x k).1) x k h0 hk (Nat.le_trans (zL_len _ x) hz) (fun y hy => Nat.le_trans (zL_mem _ hy) hz) (fun v k i hi hl h0 hk hz => ?_) (fun v k => by rw [Lw_markAtomS_2_eq, lt_no]; rfl)
  have q0 := mL_mdI v[i].1 k
  have hk2 : (mL mI v[i].1 k).2 + 1 + 1 ≤ 1000000000000000000 := hk
  have hz2 : zI v[i].1 ≤ 68719476736 := by have hz3 : zA v[i] ≤ 68719476736 := hz; simp only [zA] at hz3; omega
  have s0 := Sw_markIntS_val v[i].1 k (by omega) (by omega) (by unfold zI at *; omega)
  have w1 : IntKind.i64.wrap ((mL mI v[i].1 k).2 + 1) = (mL mI v[i].1 k).2 + 1 := wrap_up (by omega) (by omega)
  have w2 : IntKind.i64.wrap ((mL mI v[i].1 k).2 + 1 + 1) = (mL mI v[i].1 k).2 + 1 + 1 := wrap_up (by omega) (by omega)
  rw [Lw_markAtomS_2_eq, lt_yes hi, wrap_succ (by omega)]
  simp only [cond_true, Option.bind_some, getI_ok hi, getI_set hi, List.set_set, Int.toNat_natCast, s0, w1, w2]
  try rfl
theorem Sw_heldAtomS_val (x : List Atm) (k : Int) (h0 : 0 ≤ k) (hk : (mL mA x k).2 ≤ 1000000000000000000) (hz : zL zA x ≤ 68719476736) : Sw_heldAtomS (mL mA x k).1 k = some (((mL mA x k).2, ()), ()) := by
  rw [Sw_heldAtomS_eq]
  refine held0 mA zA (fun y k => (mdA y k).1) (fun v k i => Lw_heldAtomS_2 v k i) (fun x k => (mL_md mdA x k).1) x k h0 hk (Nat.le_trans (zL_len _ x) hz) (fun y hy => Nat.le_trans (zL_mem _ hy) hz) (fun v k i hi y hy hl h0 hk hz => ?_) (fun v k => by rw [Lw_heldAtomS_2_eq, lt_no]; rfl)
  have q0 := mL_mdI y.1 k
  have hk2 : (mL mI y.1 k).2 + 1 + 1 ≤ 1000000000000000000 := hk
  have hz2 : zI y.1 ≤ 68719476736 := by have hz3 : zA y ≤ 68719476736 := hz; simp only [zA] at hz3; omega
  have s0 := Sw_heldIntS_val y.1 k (by omega) (by omega) (by unfold zI at *; omega)
  have n0 : decide ((mL mI y.1 k).2 < 0) = false := decide_eq_false (by omega)
  have w1 : IntKind.i64.wrap ((mL mI y.1 k).2 + 1) = (mL mI y.1 k).2 + 1 := wrap_up (by omega) (by omega)
  have w2 : IntKind.i64.wrap ((mL mI y.1 k).2 + 1 + 1) = (mL mI y.1 k).2 + 1 + 1 := wrap_up (by omega) (by omega)
  rw [Lw_heldAtomS_2_eq, lt_yes hi, getI_ok hi, hy, wrap_succ (by omega)]
  simp only [mA, cond_true, Option.bind_some, bne_self_eq_false, beq_self_eq_true, Bool.not_true, cond_false, s0, n0, w1, w2]
noncomputable def mR (x : Rw) (k : Int) : Rw × Int := ((mtx k, (k + 1, (mL mA x.2.2 (k + 1 + 1)).1)), (mL mA x.2.2 (k + 1 + 1)).2)
theorem mdR : Md mR zR := fun x k => by
  have q2 := mL_md mdA x.2.2 (k + 1 + 1)
  have hz : zR x = zB x.1 + zL zA x.2.2 := by simp only [zR, zC] <;> omega
  unfold mR
  simp only []
  omega
theorem Sw_markRowS_val (x : List Rw) (k : Int) (h0 : 0 ≤ k) (hk : (mL mR x k).2 ≤ 1000000000000000000) (hz : zL zR x ≤ 68719476736) : Sw_markRowS x k = some (((mL mR x k).2, ()), (mL mR x k).1, ()) := by
  rw [Sw_markRowS_eq]
  refine mark0 mR zR (fun y k => (mdR y k).1) (fun v k i => Lw_markRowS_2 v k i) (fun x k => (mL_md mdR x k).1) x k h0 hk (Nat.le_trans (zL_len _ x) hz) (fun y hy => Nat.le_trans (zL_mem _ hy) hz) (fun v k i hi hl h0 hk hz => ?_) (fun v k => by rw [Lw_markRowS_2_eq, lt_no]; rfl)
  have q2 := mL_md mdA v[i].2.2 (k + 1 + 1)
  have hk2 : (mL mA v[i].2.2 (k + 1 + 1)).2 ≤ 1000000000000000000 := hk
  have hz2 : zB v[i].1 + zL zA v[i].2.2 ≤ 68719476736 := by have hz3 : zR v[i] ≤ 68719476736 := hz; simp only [zR, zC] at hz3; omega
  have t0 := Sw_markText_val (k) (by omega) (by omega)
  have w0 : IntKind.i64.wrap (k + 1) = k + 1 := wrap_up (by omega) (by omega)
  have w1 : IntKind.i64.wrap (k + 1 + 1) = k + 1 + 1 := wrap_up (by omega) (by omega)
  have s2 := Sw_markAtomS_val v[i].2.2 (k + 1 + 1) (by omega) (by omega) (by omega)
  rw [Lw_markRowS_2_eq, lt_yes hi, wrap_succ (by omega)]
  simp only [cond_true, Option.bind_some, getI_ok hi, getI_set hi, List.set_set, Int.toNat_natCast, t0, w0, w1, s2]
  try rfl
noncomputable def mQ (x : Rel) (k : Int) : Rel × Int := ((mtx k, k + 1, (mL mR x.2.2 (k + 1 + 1)).1), (mL mR x.2.2 (k + 1 + 1)).2)
theorem mdQ : Md mQ zQ := fun x k => by
  have q2 := mL_md mdR x.2.2 (k + 1 + 1)
  have hz : zQ x = zB x.1 + zL zR x.2.2 := rfl
  unfold mQ
  simp only []
  omega
theorem Sw_markRelationS_val (x : List Rel) (k : Int) (h0 : 0 ≤ k) (hk : (mL mQ x k).2 ≤ 1000000000000000000) (hz : zL zQ x ≤ 68719476736) : Sw_markRelationS x k = some (((mL mQ x k).2, ()), (mL mQ x k).1, ()) := by
  rw [Sw_markRelationS_eq]
  refine mark0 mQ zQ (fun y k => (mdQ y k).1) (fun v k i => Lw_markRelationS_2 v k i) (fun x k => (mL_md mdQ x k).1) x k h0 hk (Nat.le_trans (zL_len _ x) hz) (fun y hy => Nat.le_trans (zL_mem _ hy) hz) (fun v k i hi hl h0 hk hz => ?_) (fun v k => by rw [Lw_markRelationS_2_eq, lt_no]; rfl)
  have q2 := mL_md mdR v[i].2.2 (k + 1 + 1)
  have hk2 : (mL mR v[i].2.2 (k + 1 + 1)).2 ≤ 1000000000000000000 := hk
  have hz2 : zB v[i].1 + zL zR v[i].2.2 ≤ 68719476736 := by have hz3 : zQ v[i] ≤ 68719476736 := hz; simp only [zQ] at hz3; omega
  have t0 := Sw_markText_val (k) (by omega) (by omega)
  have w0 : IntKind.i64.wrap (k + 1) = k + 1 := wrap_up (by omega) (by omega)
  have w1 : IntKind.i64.wrap (k + 1 + 1) = k + 1 + 1 := wrap_up (by omega) (by omega)
  have s2 := Sw_markRowS_val v[i].2.2 (k + 1 + 1) (by omega) (by omega) (by omega)
  rw [Lw_markRelationS_2_eq, lt_yes hi, wrap_succ (by omega)]
  simp only [cond_true, Option.bind_some, getI_ok hi, getI_set hi, List.set_set, Int.toNat_natCast, t0, w0, w1, s2]
  try rfl
noncomputable def mN (x : Nod) (k : Int) : Nod × Int := ((k, ((mL mI x.2.1.1 (k + 1)).1, (mL mI x.2.1.1 (k + 1)).2, ((mL mI x.2.1.1 (k + 1)).2 + 1).tmod 3 == 0), mtx ((mL mI x.2.1.1 (k + 1)).2 + 1 + 1), mtx ((mL mI x.2.1.1 (k + 1)).2 + 1 + 1 + 1), (mL mI x.2.2.2.2.1 ((mL mI x.2.1.1 (k + 1)).2 + 1 + 1 + 1 + 1)).1, (mL mI x.2.2.2.2.1 ((mL mI x.2.1.1 (k + 1)).2 + 1 + 1 + 1 + 1)).2, (mL mI x.2.2.2.2.1 ((mL mI x.2.1.1 (k + 1)).2 + 1 + 1 + 1 + 1)).2 + 1, (mL mI x.2.2.2.2.1 ((mL mI x.2.1.1 (k + 1)).2 + 1 + 1 + 1 + 1)).2 + 1 + 1), (mL mI x.2.2.2.2.1 ((mL mI x.2.1.1 (k + 1)).2 + 1 + 1 + 1 + 1)).2 + 1 + 1 + 1)
theorem mdN : Md mN zN := fun x k => by
  have q1 := mL_mdI x.2.1.1 (k + 1)
  have q6 := mL_mdI x.2.2.2.2.1 ((mL mI x.2.1.1 (k + 1)).2 + 1 + 1 + 1 + 1)
  have hz : zN x = zI x.2.1.1 + zB x.2.2.1 + zB x.2.2.2.1 + zI x.2.2.2.2.1 := by simp only [zN, zA] <;> omega
  unfold mN
  simp only []
  omega
theorem Sw_markNodeS_val (x : List Nod) (k : Int) (h0 : 0 ≤ k) (hk : (mL mN x k).2 ≤ 1000000000000000000) (hz : zL zN x ≤ 68719476736) : Sw_markNodeS x k = some (((mL mN x k).2, ()), (mL mN x k).1, ()) := by
  rw [Sw_markNodeS_eq]
  refine mark0 mN zN (fun y k => (mdN y k).1) (fun v k i => Lw_markNodeS_2 v k i) (fun x k => (mL_md mdN x k).1) x k h0 hk (Nat.le_trans (zL_len _ x) hz) (fun y hy => Nat.le_trans (zL_mem _ hy) hz) (fun v k i hi hl h0 hk hz => ?_) (fun v k => by rw [Lw_markNodeS_2_eq, lt_no]; rfl)
  have q1 := mL_mdI v[i].2.1.1 (k + 1)
  have q6 := mL_mdI v[i].2.2.2.2.1 ((mL mI v[i].2.1.1 (k + 1)).2 + 1 + 1 + 1 + 1)
  have hk2 : (mL mI v[i].2.2.2.2.1 ((mL mI v[i].2.1.1 (k + 1)).2 + 1 + 1 + 1 + 1)).2 + 1 + 1 + 1 ≤ 1000000000000000000 := hk
  have hz2 : zI v[i].2.1.1 + zB v[i].2.2.1 + zB v[i].2.2.2.1 + zI v[i].2.2.2.2.1 ≤ 68719476736 := by have hz3 : zN v[i] ≤ 68719476736 := hz; simp only [zN, zA] at hz3; omega
  have w0 : IntKind.i64.wrap (k + 1) = k + 1 := wrap_up (by omega) (by omega)
  have s1 := Sw_markIntS_val v[i].2.1.1 (k + 1) (by omega) (by omega) (by unfold zI at *; omega)
  have w2 : IntKind.i64.wrap ((mL mI v[i].2.1.1 (k + 1)).2 + 1) = (mL mI v[i].2.1.1 (k + 1)).2 + 1 := wrap_up (by omega) (by omega)
  have w3 : IntKind.i64.wrap ((mL mI v[i].2.1.1 (k + 1)).2 + 1 + 1) = (mL mI v[i].2.1.1 (k + 1)).2 + 1 + 1 := wrap_up (by omega) (by omega)
  have t4 := Sw_markText_val ((mL mI v[i].2.1.1 (k + 1)).2 + 1 + 1) (by omega) (by omega)
  have w4 : IntKind.i64.wrap ((mL mI v[i].2.1.1 (k + 1)).2 + 1 + 1 + 1) = (mL mI v[i].2.1.1 (k + 1)).2 + 1 + 1 + 1 := wrap_up (by omega) (by omega)
  have t5 := Sw_markText_val ((mL mI v[i].2.1.1 (k + 1)).2 + 1 + 1 + 1) (by omega) (by omega)
  have w5 : IntKind.i64.wrap ((mL mI v[i].2.1.1 (k + 1)).2 + 1 + 1 + 1 + 1) = (mL mI v[i].2.1.1 (k + 1)).2 + 1 + 1 + 1 + 1 := wrap_up (by omega) (by omega)
  have s6 := Sw_markIntS_val v[i].2.2.2.2.1 ((mL mI v[i].2.1.1 (k + 1)).2 + 1 + 1 + 1 + 1) (by omega) (by omega) (by unfold zI at *; omega)
  have w7 : IntKind.i64.wrap ((mL mI v[i].2.2.2.2.1 ((mL mI v[i].2.1.1 (k + 1)).2 + 1 + 1 + 1 + 1)).2 + 1) = (mL mI v[i].2.2.2.2.1 ((mL mI v[i].2.1.1 (k + 1)).2 + 1 + 1 + 1 + 1)).2 + 1 := wrap_up (by omega) (by omega)
  have w8 : IntKind.i64.wrap ((mL mI v[i].2.2.2.2.1 ((mL mI v[i].2.1.1 (k + 1)).2 + 1 + 1 + 1 + 1)).2 + 1 + 1) = (mL mI v[i].2.2.2.2.1 ((mL mI v[i].2.1.1 (k + 1)).2 + 1 + 1 + 1 + 1)).2 + 1 + 1 := wrap_up (by omega) (by omega)
  have w9 : IntKind.i64.wrap ((mL mI v[i].2.2.2.2.1 ((mL mI v[i].2.1.1 (k + 1)).2 + 1 + 1 + 1 + 1)).2 + 1 + 1 + 1) = (mL mI v[i].2.2.2.2.1 ((mL mI v[i].2.1.1 (k + 1)).2 + 1 + 1 + 1 + 1)).2 + 1 + 1 + 1 := wrap_up (by omega) (by omega)
  rw [Lw_markNodeS_2_eq, lt_yes hi, wrap_succ (by omega)]
  simp only [cond_true, Option.bind_some, getI_ok hi, getI_set hi, List.set_set, Int.toNat_natCast, w0, s1, w2, w3, t4, w4, t5, w5, s6, w7, w8, w9]
  try rfl
theorem Sw_heldNodeS_val (x : List Nod) (k : Int) (h0 : 0 ≤ k) (hk : (mL mN x k).2 ≤ 1000000000000000000) (hz : zL zN x ≤ 68719476736) : Sw_heldNodeS (mL mN x k).1 k = some (((mL mN x k).2, ()), ()) := by
  rw [Sw_heldNodeS_eq]
  refine held0 mN zN (fun y k => (mdN y k).1) (fun v k i => Lw_heldNodeS_2 v k i) (fun x k => (mL_md mdN x k).1) x k h0 hk (Nat.le_trans (zL_len _ x) hz) (fun y hy => Nat.le_trans (zL_mem _ hy) hz) (fun v k i hi y hy hl h0 hk hz => ?_) (fun v k => by rw [Lw_heldNodeS_2_eq, lt_no]; rfl)
  have q1 := mL_mdI y.2.1.1 (k + 1)
  have q6 := mL_mdI y.2.2.2.2.1 ((mL mI y.2.1.1 (k + 1)).2 + 1 + 1 + 1 + 1)
  have hk2 : (mL mI y.2.2.2.2.1 ((mL mI y.2.1.1 (k + 1)).2 + 1 + 1 + 1 + 1)).2 + 1 + 1 + 1 ≤ 1000000000000000000 := hk
  have hz2 : zI y.2.1.1 + zB y.2.2.1 + zB y.2.2.2.1 + zI y.2.2.2.2.1 ≤ 68719476736 := by have hz3 : zN y ≤ 68719476736 := hz; simp only [zN, zA] at hz3; omega
  have w0 : IntKind.i64.wrap (k + 1) = k + 1 := wrap_up (by omega) (by omega)
  have s1 := Sw_heldIntS_val y.2.1.1 (k + 1) (by omega) (by omega) (by unfold zI at *; omega)
  have n1 : decide ((mL mI y.2.1.1 (k + 1)).2 < 0) = false := decide_eq_false (by omega)
  have w2 : IntKind.i64.wrap ((mL mI y.2.1.1 (k + 1)).2 + 1) = (mL mI y.2.1.1 (k + 1)).2 + 1 := wrap_up (by omega) (by omega)
  have w3 : IntKind.i64.wrap ((mL mI y.2.1.1 (k + 1)).2 + 1 + 1) = (mL mI y.2.1.1 (k + 1)).2 + 1 + 1 := wrap_up (by omega) (by omega)
  have t4 := Sw_markText_val ((mL mI y.2.1.1 (k + 1)).2 + 1 + 1) (by omega) (by omega)
  have w4 : IntKind.i64.wrap ((mL mI y.2.1.1 (k + 1)).2 + 1 + 1 + 1) = (mL mI y.2.1.1 (k + 1)).2 + 1 + 1 + 1 := wrap_up (by omega) (by omega)
  have t5 := Sw_markText_val ((mL mI y.2.1.1 (k + 1)).2 + 1 + 1 + 1) (by omega) (by omega)
  have w5 : IntKind.i64.wrap ((mL mI y.2.1.1 (k + 1)).2 + 1 + 1 + 1 + 1) = (mL mI y.2.1.1 (k + 1)).2 + 1 + 1 + 1 + 1 := wrap_up (by omega) (by omega)
  have s6 := Sw_heldIntS_val y.2.2.2.2.1 ((mL mI y.2.1.1 (k + 1)).2 + 1 + 1 + 1 + 1) (by omega) (by omega) (by unfold zI at *; omega)
  have n6 : decide ((mL mI y.2.2.2.2.1 ((mL mI y.2.1.1 (k + 1)).2 + 1 + 1 + 1 + 1)).2 < 0) = false := decide_eq_false (by omega)
  have w7 : IntKind.i64.wrap ((mL mI y.2.2.2.2.1 ((mL mI y.2.1.1 (k + 1)).2 + 1 + 1 + 1 + 1)).2 + 1) = (mL mI y.2.2.2.2.1 ((mL mI y.2.1.1 (k + 1)).2 + 1 + 1 + 1 + 1)).2 + 1 := wrap_up (by omega) (by omega)
  have w8 : IntKind.i64.wrap ((mL mI y.2.2.2.2.1 ((mL mI y.2.1.1 (k + 1)).2 + 1 + 1 + 1 + 1)).2 + 1 + 1) = (mL mI y.2.2.2.2.1 ((mL mI y.2.1.1 (k + 1)).2 + 1 + 1 + 1 + 1)).2 + 1 + 1 := wrap_up (by omega) (by omega)
  have w9 : IntKind.i64.wrap ((mL mI y.2.2.2.2.1 ((mL mI y.2.1.1 (k + 1)).2 + 1 + 1 + 1 + 1)).2 + 1 + 1 + 1) = (mL mI y.2.2.2.2.1 ((mL mI y.2.1.1 (k + 1)).2 + 1 + 1 + 1 + 1)).2 + 1 + 1 + 1 := wrap_up (by omega) (by omega)
  rw [Lw_heldNodeS_2_eq, lt_yes hi, getI_ok hi, hy, wrap_succ (by omega)]
  simp only [mN, cond_true, Option.bind_some, bne_self_eq_false, beq_self_eq_true, Bool.not_true, cond_false, w0, s1, n1, w2, w3, t4, w4, t5, w5, s6, n6, w7, w8, w9]
noncomputable def mP (x : Sup) (k : Int) : Sup × Int := (((k, (mL mA x.1.2 (k + 1)).1), (mL (mL mI) x.2 ((mL mA x.1.2 (k + 1)).2)).1), (mL (mL mI) x.2 ((mL mA x.1.2 (k + 1)).2)).2)
theorem mdP : Md mP zP := fun x k => by
  have q1 := mL_md mdA x.1.2 (k + 1)
  have q2 := mL_md mdL_IntS x.2 ((mL mA x.1.2 (k + 1)).2)
  have hz : zP x = zL zA x.1.2 + zL zI x.2 := by simp only [zP, zC] <;> omega
  unfold mP
  simp only []
  omega
theorem Sw_markSupportS_val (x : List Sup) (k : Int) (h0 : 0 ≤ k) (hk : (mL mP x k).2 ≤ 1000000000000000000) (hz : zL zP x ≤ 68719476736) : Sw_markSupportS x k = some (((mL mP x k).2, ()), (mL mP x k).1, ()) := by
  rw [Sw_markSupportS_eq]
  refine mark0 mP zP (fun y k => (mdP y k).1) (fun v k i => Lw_markSupportS_2 v k i) (fun x k => (mL_md mdP x k).1) x k h0 hk (Nat.le_trans (zL_len _ x) hz) (fun y hy => Nat.le_trans (zL_mem _ hy) hz) (fun v k i hi hl h0 hk hz => ?_) (fun v k => by rw [Lw_markSupportS_2_eq, lt_no]; rfl)
  have q1 := mL_md mdA v[i].1.2 (k + 1)
  have q2 := mL_md mdL_IntS v[i].2 ((mL mA v[i].1.2 (k + 1)).2)
  have hk2 : (mL (mL mI) v[i].2 ((mL mA v[i].1.2 (k + 1)).2)).2 ≤ 1000000000000000000 := hk
  have hz2 : zL zA v[i].1.2 + zL zI v[i].2 ≤ 68719476736 := by have hz3 : zP v[i] ≤ 68719476736 := hz; simp only [zP, zC] at hz3; omega
  have w0 : IntKind.i64.wrap (k + 1) = k + 1 := wrap_up (by omega) (by omega)
  have s1 := Sw_markAtomS_val v[i].1.2 (k + 1) (by omega) (by omega) (by omega)
  have s2 := Sw_markIntSS_val v[i].2 ((mL mA v[i].1.2 (k + 1)).2) (by omega) (by omega) (by omega)
  rw [Lw_markSupportS_2_eq, lt_yes hi, wrap_succ (by omega)]
  simp only [cond_true, Option.bind_some, getI_ok hi, getI_set hi, List.set_set, Int.toNat_natCast, w0, s1, s2]
  try rfl
theorem Sw_heldSupportS_val (x : List Sup) (k : Int) (h0 : 0 ≤ k) (hk : (mL mP x k).2 ≤ 1000000000000000000) (hz : zL zP x ≤ 68719476736) : Sw_heldSupportS (mL mP x k).1 k = some (((mL mP x k).2, ()), ()) := by
  rw [Sw_heldSupportS_eq]
  refine held0 mP zP (fun y k => (mdP y k).1) (fun v k i => Lw_heldSupportS_2 v k i) (fun x k => (mL_md mdP x k).1) x k h0 hk (Nat.le_trans (zL_len _ x) hz) (fun y hy => Nat.le_trans (zL_mem _ hy) hz) (fun v k i hi y hy hl h0 hk hz => ?_) (fun v k => by rw [Lw_heldSupportS_2_eq, lt_no]; rfl)
  have q1 := mL_md mdA y.1.2 (k + 1)
  have q2 := mL_md mdL_IntS y.2 ((mL mA y.1.2 (k + 1)).2)
  have hk2 : (mL (mL mI) y.2 ((mL mA y.1.2 (k + 1)).2)).2 ≤ 1000000000000000000 := hk
  have hz2 : zL zA y.1.2 + zL zI y.2 ≤ 68719476736 := by have hz3 : zP y ≤ 68719476736 := hz; simp only [zP, zC] at hz3; omega
  have w0 : IntKind.i64.wrap (k + 1) = k + 1 := wrap_up (by omega) (by omega)
  have s1 := Sw_heldAtomS_val y.1.2 (k + 1) (by omega) (by omega) (by omega)
  have n1 : decide ((mL mA y.1.2 (k + 1)).2 < 0) = false := decide_eq_false (by omega)
  have s2 := Sw_heldIntSS_val y.2 ((mL mA y.1.2 (k + 1)).2) (by omega) (by omega) (by omega)
  have n2 : decide ((mL (mL mI) y.2 ((mL mA y.1.2 (k + 1)).2)).2 < 0) = false := decide_eq_false (by omega)
  rw [Lw_heldSupportS_2_eq, lt_yes hi, getI_ok hi, hy, wrap_succ (by omega)]
  simp only [mP, cond_true, Option.bind_some, bne_self_eq_false, beq_self_eq_true, Bool.not_true, cond_false, w0, s1, n1, s2, n2]
noncomputable def tV (x : Viw) (k : Int) : Viw × Int := (((mL mN x.1 k).1, (mL mP x.2 ((mL mN x.1 k).2)).1), (mL mP x.2 ((mL mN x.1 k).2)).2)
theorem tdV (x : Viw) (k : Int) : k ≤ (tV x k).2 ∧ (tV x k).2 ≤ k + 12 * zV x := by
  have q0 := mL_md mdN x.1 k
  have q1 := mL_md mdP x.2 ((mL mN x.1 k).2)
  have hz : zV x = zL zN x.1 + zL zP x.2 := rfl
  unfold tV
  simp only []
  omega
theorem Sw_markView_val (x : Viw) (k : Int) (h0 : 0 ≤ k) (hk : (tV x k).2 ≤ 1000000000000000000) (hz : zV x ≤ 68719476736) : Sw_markView x k = some (((tV x k).2, ()), (tV x k).1, ()) := by
  have q0 := mL_md mdN x.1 k
  have q1 := mL_md mdP x.2 ((mL mN x.1 k).2)
  have hk2 : (mL mP x.2 ((mL mN x.1 k).2)).2 ≤ 1000000000000000000 := hk
  have hz2 : zL zN x.1 + zL zP x.2 ≤ 68719476736 := hz
  have s0 := Sw_markNodeS_val x.1 k (by omega) (by omega) (by omega)
  have s1 := Sw_markSupportS_val x.2 ((mL mN x.1 k).2) (by omega) (by omega) (by omega)
  rw [Sw_markView_eq]
  simp only [tV, Option.bind_some, cond_false, s0, s1]
theorem Sw_heldView_val (x : Viw) (k : Int) (h0 : 0 ≤ k) (hk : (tV x k).2 ≤ 1000000000000000000) (hz : zV x ≤ 68719476736) : Sw_heldView (tV x k).1 k = some (((tV x k).2, ()), ()) := by
  have q0 := mL_md mdN x.1 k
  have q1 := mL_md mdP x.2 ((mL mN x.1 k).2)
  have hk2 : (mL mP x.2 ((mL mN x.1 k).2)).2 ≤ 1000000000000000000 := hk
  have hz2 : zL zN x.1 + zL zP x.2 ≤ 68719476736 := hz
  have s0 := Sw_heldNodeS_val x.1 k (by omega) (by omega) (by omega)
  have n0 : decide ((mL mN x.1 k).2 < 0) = false := decide_eq_false (by omega)
  have s1 := Sw_heldSupportS_val x.2 ((mL mN x.1 k).2) (by omega) (by omega) (by omega)
  have n1 : decide ((mL mP x.2 ((mL mN x.1 k).2)).2 < 0) = false := decide_eq_false (by omega)
  rw [Sw_heldView_eq]
  simp only [tV, Option.bind_some, cond_false, s0, n0, s1, n1]

/-! ### bounds -/
def gA (a : Atm) : Prop := a.1.length ≤ 68719476736
def gC (c : Cel) : Prop := c.2.length ≤ 68719476736 ∧ ∀ a ∈ c.2, gA a
def gR (r : Rw) : Prop := r.1.size ≤ 68719476736 ∧ gC r.2
def gL (r : Rel) : Prop := r.1.size ≤ 68719476736 ∧ r.2.2.length ≤ 68719476736 ∧ ∀ y ∈ r.2.2, gR y
/-! ### words -/
theorem getB_ok {x : ByteArray} {i : Nat} (h : i < x.data.toList.length) : getB x (i : Int) = some ((x.data.toList[i].toNat : Nat) : Int) := by
  unfold getB
  rw [if_pos (by omega)]
  have h' : i < x.size := by simpa using h
  simp only [Int.toNat_natCast]
  rw [show x[i]? = some x[i] from getElem?_pos x i h']
  simp only [Option.map_some]
  congr 3
def wordB (x : ByteArray) (a b : Int) : Bool := x.data.toList.all (fun c => !(decide (((c.toNat : Nat) : Int) < a)) && !(decide (((c.toNat : Nat) : Int) > b))) && (decide (1 ≤ (x.size : Int)) && decide ((x.size : Int) ≤ 6))
theorem size_is (x : ByteArray) : x.size = x.data.toList.length := by simp
theorem Ss_l1In_val (a b c : Int) : Ss_l1In a b c = some ((decide (b ≤ a) && decide (a ≤ c), ()), ()) := by
  rw [Ss_l1In_eq]
  by_cases h : a ≥ b
  · simp [h]
  · simp [h]
theorem Ss_l5Word_val (x : ByteArray) (a b : Int) (hl : x.size ≤ 68719476736) : Ss_l5Word x a b = some ((wordB x a b, ()), ()) := by
  rw [Ss_l5Word_eq]
  have := all_loop x.data.toList (fun c => !(decide (((c.toNat : Nat) : Int) < a)) && !(decide (((c.toNat : Nat) : Int) > b))) (some ((false, ()), ())) (some ((decide (1 ≤ (x.size : Int)) && decide ((x.size : Int) ≤ 6), ()), ())) (fun i => Ls_l5Word_2 x a b i) (by rw [← size_is]; exact hl) (fun i hi => by
    have hb : i < x.size := by rw [size_is]; exact hi
    rw [Ls_l5Word_2_eq, getB_ok hi, wrap_succ (by omega)]
    simp only [lt_yes hb, cond_true, Option.bind_some]
    cases decide (((x.data.toList[i].toNat : Nat) : Int) < a) <;> cases decide (((x.data.toList[i].toNat : Nat) : Int) > b) <;> rfl) (by rw [Ls_l5Word_2_eq, ← size_is, lt_no, Ss_l1In_val]; rfl) x.data.toList.length 0 (by omega)
  simp only [List.drop_zero, Int.natCast_zero] at this
  rw [show Ls_l5Word_2 x a b 0 = _ from this]
  unfold wordB
  cases x.data.toList.all _ <;> rfl
theorem Si_isWord_val (x : ByteArray) (a b : Int) : Si_isWord x a b = some ((wordB x a b, ()), ()) := by
  rw [Si_isWord_eq]
  unfold wordB
  by_cases h1 : (x.size : Int) < 1
  · have : ¬ (1 ≤ (x.size : Int)) := by omega
    simp [h1, this]
  · by_cases h2 : (x.size : Int) > 6
    · have : ¬ ((x.size : Int) ≤ 6) := by omega
      simp only [h1, h2, decide_false, decide_true, cond_false, cond_true, this, Bool.and_false]
    · have e1 : 1 ≤ (x.size : Int) := by omega
      have e2 : (x.size : Int) ≤ 6 := by omega
      simp only [h1, h2, decide_false, cond_false, e1, e2, decide_true, Bool.and_self, Bool.and_true]
      have := all_loop x.data.toList (fun c => !(decide (((c.toNat : Nat) : Int) < a)) && !(decide (((c.toNat : Nat) : Int) > b))) (some ((false, ()), ())) (some ((true, ()), ())) (fun i => Li_isWord_4 x a b i) (by rw [← size_is]; omega) (fun i hi => by
        have hb : i < x.size := by rw [size_is]; exact hi
        rw [Li_isWord_4_eq, getB_ok hi, wrap_succ (by omega)]
        simp only [lt_yes hb, cond_true, Option.bind_some]
        cases decide (((x.data.toList[i].toNat : Nat) : Int) < a) <;> cases decide (((x.data.toList[i].toNat : Nat) : Int) > b) <;> rfl) (by rw [Li_isWord_4_eq, ← size_is, lt_no]; rfl) x.data.toList.length 0 (by omega)
      simp only [List.drop_zero, Int.natCast_zero] at this
      rw [show Li_isWord_4 x a b 0 = _ from this]
      cases x.data.toList.all _ <;> rfl
theorem Si_isName_val (x : ByteArray) : Si_isName x = some ((wordB x 65 90, ()), ()) := by
  rw [Si_isName_eq, Si_isWord_val]; rfl
theorem Si_isLabel_val (x : ByteArray) : Si_isLabel x = some ((wordB x 97 122, ()), ()) := by
  rw [Si_isLabel_eq, Si_isWord_val]; rfl


/-! ### numbers -/
def numB (a : Int) : Bool := decide (-400000000 ≤ a) && decide (a ≤ 400000000)
theorem Ss_IsNumber_val (a : Int) : Ss_IsNumber a = some ((numB a, ()), ()) := by
  rw [Ss_IsNumber_eq, Ss_l1In_val, Option.bind_some]; rfl
theorem Si_IsNumber_val (a : Int) : Si_IsNumber a = some ((numB a, ()), ()) := by
  rw [Si_IsNumber_eq]
  unfold numB
  by_cases h : a ≥ -400000000
  · simp [h]
  · simp [h]
theorem Si_absolute_val {a : Int} (h : numB a = true) : Si_absolute a = some (((a.natAbs : Int), ()), ()) := by
  simp only [numB, Bool.and_eq_true, decide_eq_true_eq] at h
  rw [Si_absolute_eq]
  by_cases h0 : a < 0
  · simp only [h0, decide_true, cond_true]
    rw [wrap_id (by omega) (by omega)]
    congr 3; omega
  · simp only [h0, decide_false, cond_false]
    congr 3; omega
theorem Si_absolute_nat (a : Nat) : Si_absolute (a : Int) = some (((a : Int), ()), ()) := by
  rw [Si_absolute_eq]
  have : decide ((a : Int) < 0) = false := by simp
  rw [this, cond_false]
theorem Ss_l1Abs_val {a : Int} (h : numB a = true) : Ss_l1Abs a = some (((a.natAbs : Int), ()), ()) := by
  simp only [numB, Bool.and_eq_true, decide_eq_true_eq] at h
  rw [Ss_l1Abs_eq]
  rw [wrap_id (by omega) (by omega)]
  simp only [cond_true]
  congr 3
  split <;> omega
theorem L114_val : ∀ (n : Nat) (a b : Int), b.natAbs ≤ n → 0 ≤ a → 0 ≤ b → Li_commonDivisor_2 a b = some ((((Nat.gcd a.natAbs b.natAbs : Nat) : Int), ()), ())
  | n, a, b, hn, ha, hb => by
    rw [Li_commonDivisor_2_eq]
    by_cases h0 : b = 0
    · subst h0
      simp only [bne_self_eq_false, cond_false]
      simp
      omega
    · have : (b != 0) = true := by simpa using h0
      rw [this, cond_true, cond_true]
      have hlt : a.natAbs % b.natAbs < b.natAbs := Nat.mod_lt _ (by omega)
      have hm := Int.natAbs_tmod a b
      cases n with
      | zero => omega
      | succ n =>
        rw [L114_val n b (Int.tmod a b) (by omega) hb (Int.tmod_nonneg _ ha), hm]
        congr 4
        rw [Nat.gcd_comm a.natAbs, Nat.gcd_rec b.natAbs a.natAbs, Nat.gcd_comm]
  termination_by n => n
theorem Si_commonDivisor_val (a : Nat) {b : Int} (hb : numB b = true) : Si_commonDivisor (a : Int) b = some ((((Nat.gcd a b.natAbs : Nat) : Int), ()), ()) := by
  rw [Si_commonDivisor_eq, Si_absolute_nat, Si_absolute_val hb]
  simp only [Option.bind_some]
  rw [L114_val _ _ _ (Nat.le_refl _) (by omega) (by omega)]
  simp
/-- The greatest common divisor of a number and a row. -/
def gl (x : List Int) (g : Nat) : Nat := x.foldl (fun g y => Nat.gcd g y.natAbs) g
theorem gl_gcd : ∀ (x : List Int) (g h : Nat), gl x (Nat.gcd g h) = Nat.gcd (gl x g) h
  | [], _, _ => rfl
  | y :: x, g, h => by
    change gl x (Nat.gcd (Nat.gcd g h) y.natAbs) = Nat.gcd (gl x (Nat.gcd g y.natAbs)) h
    rw [show Nat.gcd (Nat.gcd g h) y.natAbs = Nat.gcd (Nat.gcd g y.natAbs) h by rw [Nat.gcd_assoc, Nat.gcd_comm h, ← Nat.gcd_assoc], gl_gcd x]
theorem gl_is (x : List Int) (k : Nat) : gl x k = Nat.gcd (gl x 0) k := by
  rw [← gl_gcd, Nat.gcd_zero_left]
theorem Ls_l2Gcd_6_val (x : List Int) (i : Int) : ∀ (n : Nat) (a b : Int), b.natAbs ≤ n → 0 ≤ a → 0 ≤ b → Ls_l2Gcd_6 x a i b = Ls_l2Gcd_3 x ((Nat.gcd a.natAbs b.natAbs : Nat) : Int) (IntKind.i64.wrap (i + 1))
  | n, a, b, hn, ha, hb => by
    rw [Ls_l2Gcd_6_eq]
    by_cases h0 : b = 0
    · subst h0
      simp only [bne_self_eq_false, cond_false]
      congr 1
      simp
      omega
    · have : (b != 0) = true := by simpa using h0
      rw [this, cond_true, cond_true]
      have hlt : a.natAbs % b.natAbs < b.natAbs := Nat.mod_lt _ (by omega)
      have hm := Int.natAbs_tmod a b
      cases n with
      | zero => omega
      | succ n =>
        rw [Ls_l2Gcd_6_val x i n b (Int.tmod a b) (by omega) hb (Int.tmod_nonneg _ ha), hm]
        congr 2
        rw [Nat.gcd_comm a.natAbs, Nat.gcd_rec b.natAbs a.natAbs, Nat.gcd_comm]
  termination_by n => n
theorem Ls_l2Gcd_3_val (x : List Int) (hl : x.length ≤ 68719476736) (hx : ∀ y ∈ x, numB y = true) : ∀ (n i g : Nat), n + i = x.length → Ls_l2Gcd_3 x (g : Int) (i : Int) = some ((((gl (x.drop i) g : Nat) : Int), ()), ())
  | 0, i, g, hn => by
    obtain rfl : i = x.length := by omega
    rw [Ls_l2Gcd_3_eq, lt_no, List.drop_eq_nil_of_le (by omega)]
    rfl
  | n + 1, i, g, hn => by
    have hi : i < x.length := by omega
    rw [Ls_l2Gcd_3_eq, lt_yes hi, getI_ok hi, cond_true, Option.bind_some, Ss_l1Abs_val (hx _ (List.getElem_mem hi)), Option.bind_some, Ls_l2Gcd_6_val x i _ _ _ (Nat.le_refl _) (Int.natCast_nonneg _) (Int.natCast_nonneg _), wrap_succ (by omega), Ls_l2Gcd_3_val x hl hx n (i + 1) _ (by omega), List.drop_eq_getElem_cons hi]
    simp only [Int.natAbs_natCast]
    rfl
theorem Ss_l2Gcd_val (x : List Int) (k : Int) (hl : x.length ≤ 68719476736) (hx : ∀ y ∈ x, numB y = true) (hk : numB k = true) : Ss_l2Gcd x k = some ((((gl x k.natAbs : Nat) : Int), ()), ()) := by
  rw [Ss_l2Gcd_eq, Ss_l1Abs_val hk, Option.bind_some]
  have := Ls_l2Gcd_3_val x hl hx x.length 0 k.natAbs (by omega)
  simpa using this
theorem Li_divisorOf_3_val (x : List Int) (hl : x.length ≤ 68719476736) (hx : ∀ y ∈ x, numB y = true) : ∀ (n i g : Nat), n + i = x.length → Li_divisorOf_3 x (g : Int) x (x.length : Int) (i : Int) = some ((((gl (x.drop i) g : Nat) : Int), ()), ())
  | 0, i, g, hn => by
    obtain rfl : i = x.length := by omega
    rw [Li_divisorOf_3_eq, lt_no, List.drop_eq_nil_of_le (by omega)]
    rfl
  | n + 1, i, g, hn => by
    have hi : i < x.length := by omega
    rw [Li_divisorOf_3_eq, lt_yes hi, getI_ok hi, cond_true, Option.bind_some, Si_commonDivisor_val _ (hx _ (List.getElem_mem hi)), Option.bind_some, wrap_succ (by omega), Li_divisorOf_3_val x hl hx n (i + 1) _ (by omega), List.drop_eq_getElem_cons hi]
    rfl
theorem Si_divisorOf_val (x : List Int) (hl : x.length ≤ 68719476736) (hx : ∀ y ∈ x, numB y = true) : Si_divisorOf x = some ((((gl x 0 : Nat) : Int), ()), ()) := by
  rw [Si_divisorOf_eq]
  have := Li_divisorOf_3_val x hl hx x.length 0 0 (by omega)
  simpa using this

/-! ### atoms -/
def atomB (a : Atm) : Bool := !(decide ((a.1.length : Int) > 4)) && (numB a.2.1 && (a.1.all numB && decide (((gl a.1 a.2.1.natAbs : Nat) : Int) ≤ 1)))
theorem Ss_IsAtom_val (a : Atm) : Ss_IsAtom a = some ((atomB a, ()), ()) := by
  rw [Ss_IsAtom_eq, Ss_IsNumber_val]
  unfold atomB
  cases h : decide ((a.1.length : Int) > 4) with
  | true => rfl
  | false =>
    have hl : a.1.length ≤ 68719476736 := by simp at h; omega
    simp only [cond_false, Option.bind_some, Bool.not_false, Bool.true_and]
    cases hk : numB a.2.1 with
    | false => rfl
    | true =>
      simp only [Bool.not_true, cond_false, Bool.true_and]
      have := all_loop a.1 numB (some ((false, ()), ())) (Ls_IsAtom_4 a (a.1.length : Int)) (fun i => Ls_IsAtom_4 a i) hl (fun i hi => by
        rw [Ls_IsAtom_4_eq, getI_ok hi, wrap_succ (by omega)]
        simp only [lt_yes hi, cond_true, Option.bind_some, Ss_IsNumber_val]
        cases numB a.1[i] <;> rfl) rfl a.1.length 0 (by omega)
      simp only [List.drop_zero, Int.natCast_zero] at this
      rw [show Ls_IsAtom_4 a 0 = _ from this]
      cases ha : a.1.all numB with
      | false => rfl
      | true =>
        rw [cond_true, Ls_IsAtom_4_eq, lt_no, cond_false, Ss_l2Gcd_val a.1 _ hl (List.all_eq_true.1 ha) hk]
        rfl
theorem Si_IsAtom_val (a : Atm) : Si_IsAtom a = some ((atomB a, ()), ()) := by
  rw [Si_IsAtom_eq, Si_IsNumber_val]
  unfold atomB
  cases h : decide ((a.1.length : Int) > 4) with
  | true => rfl
  | false =>
    have hl : a.1.length ≤ 68719476736 := by simp at h; omega
    simp only [cond_false, Option.bind_some, Bool.not_false, Bool.true_and]
    cases hk : numB a.2.1 with
    | false => rfl
    | true =>
      simp only [Bool.not_true, cond_false, Bool.true_and]
      have := all_loop a.1 numB (some ((false, ()), ())) (Li_IsAtom_4 a a.1 (a.1.length : Int) (a.1.length : Int)) (fun i => Li_IsAtom_4 a a.1 (a.1.length : Int) i) hl (fun i hi => by
        rw [Li_IsAtom_4_eq, getI_ok hi, wrap_succ (by omega)]
        simp only [lt_yes hi, cond_true, Option.bind_some, Si_IsNumber_val]
        cases numB a.1[i] <;> rfl) rfl a.1.length 0 (by omega)
      simp only [List.drop_zero, Int.natCast_zero] at this
      rw [show Li_IsAtom_4 a a.1 (a.1.length : Int) 0 = _ from this]
      cases ha : a.1.all numB with
      | false => rfl
      | true =>
        rw [cond_true, Li_IsAtom_4_eq, lt_no, cond_false, Si_divisorOf_val a.1 hl (List.all_eq_true.1 ha), Option.bind_some, Si_commonDivisor_val _ hk, Option.bind_some, ← gl_is]
        rfl

/-! ### cells -/
def cellB (c : Cel) : Bool := c.2.all (fun a => atomB a && !((a.1.length : Int) != c.1)) && (decide (0 ≤ c.1) && decide (c.1 ≤ 4) && decide ((c.2.length : Int) ≤ 16))
theorem Ss_IsCell_val (c : Cel) (hl : c.2.length ≤ 68719476736) : Ss_IsCell c = some ((cellB c, ()), ()) := by
  rw [Ss_IsCell_eq]
  have := all_loop c.2 (fun a => atomB a && !((a.1.length : Int) != c.1)) (some ((false, ()), ())) (Ls_IsCell_2 c (c.2.length : Int)) (fun i => Ls_IsCell_2 c i) hl (fun i hi => by
    rw [Ls_IsCell_2_eq, getI_ok hi, wrap_succ (by omega)]
    simp only [lt_yes hi, cond_true, Option.bind_some, Ss_IsAtom_val]
    cases atomB c.2[i] <;> cases ((c.2[i].1.length : Int) != c.1) <;> rfl) rfl c.2.length 0 (by omega)
  simp only [List.drop_zero, Int.natCast_zero] at this
  rw [show Ls_IsCell_2 c 0 = _ from this, Ls_IsCell_2_eq, lt_no, Ss_l1In_val]
  unfold cellB
  cases c.2.all _ <;> cases (decide (0 ≤ c.1) && decide (c.1 ≤ 4)) <;> rfl
theorem Si_IsCell_val (c : Cel) : Si_IsCell c = some ((cellB c, ()), ()) := by
  rw [Si_IsCell_eq]
  unfold cellB
  by_cases h1 : c.1 < 0
  · have : ¬ (0 ≤ c.1) := by omega
    simp [h1, this]
  by_cases h2 : c.1 > 4
  · have : ¬ (c.1 ≤ 4) := by omega
    simp [h1, h2, this]
  by_cases h3 : (c.2.length : Int) > 16
  · have : ¬ ((c.2.length : Int) ≤ 16) := by omega
    simp only [h1, h2, h3, this, decide_false, decide_true, cond_false, cond_true, Bool.and_false]
  · have e1 : 0 ≤ c.1 := by omega
    have e2 : c.1 ≤ 4 := by omega
    have e3 : (c.2.length : Int) ≤ 16 := by omega
    simp only [h1, h2, h3, e1, e2, e3, decide_false, decide_true, cond_false, Bool.and_self, Bool.and_true]
    have := all_loop c.2 (fun a => atomB a && !((a.1.length : Int) != c.1)) (some ((false, ()), ())) (some ((true, ()), ())) (fun i => Li_IsCell_4 c c.2 (c.2.length : Int) i) (by omega) (fun i hi => by
      rw [Li_IsCell_4_eq, getI_ok hi, wrap_succ (by omega)]
      simp only [lt_yes hi, cond_true, Option.bind_some, Si_IsAtom_val]
      cases atomB c.2[i] <;> cases ((c.2[i].1.length : Int) != c.1) <;> rfl) (by rw [Li_IsCell_4_eq, lt_no]; rfl) c.2.length 0 (by omega)
    simp only [List.drop_zero, Int.natCast_zero] at this
    rw [show Li_IsCell_4 c c.2 (c.2.length : Int) 0 = _ from this]
    cases c.2.all _ <;> rfl

/-! ### relations -/
def rowB (d : Int) (r : Rw) : Bool := wordB r.1 97 122 && (cellB r.2 && !(r.2.1 != d))
def relB (r : Rel) : Bool := wordB r.1 65 90 && (decide (0 ≤ r.2.1) && decide (r.2.1 ≤ 4) && (decide ((r.2.2.length : Int) ≤ 8) && r.2.2.all (rowB r.2.1)))
theorem Ss_IsRelation_val (r : Rel) (h : gL r) : Ss_IsRelation r = some ((relB r, ()), ()) := by
  obtain ⟨h0, hl, hg⟩ := h
  rw [Ss_IsRelation_eq]
  have := all_loop r.2.2 (rowB r.2.1) (some ((false, ()), ())) (Ls_IsRelation_2 r (r.2.2.length : Int)) (fun i => Ls_IsRelation_2 r i) hl (fun i hi => by
    have hgi := hg _ (List.getElem_mem hi)
    rw [Ls_IsRelation_2_eq, getI_ok hi, wrap_succ (by omega)]
    simp only [lt_yes hi, cond_true, Option.bind_some, Ss_l5Word_val _ _ _ hgi.1, Ss_IsCell_val _ hgi.2.1]
    unfold rowB
    cases wordB r.2.2[i].1 97 122 <;> cases cellB r.2.2[i].2 <;> cases (r.2.2[i].2.1 != r.2.1) <;> rfl) rfl r.2.2.length 0 (by omega)
  simp only [List.drop_zero, Int.natCast_zero] at this
  rw [show Ls_IsRelation_2 r 0 = _ from this, Ls_IsRelation_2_eq, lt_no, Ss_l1In_val, Ss_l5Word_val _ _ _ h0]
  unfold relB
  cases r.2.2.all _ <;> cases wordB r.1 65 90 <;> cases (decide (0 ≤ r.2.1) && decide (r.2.1 ≤ 4)) <;> cases decide ((r.2.2.length : Int) ≤ 8) <;> rfl
theorem Si_IsRelation_val (r : Rel) : Si_IsRelation r = some ((relB r, ()), ()) := by
  rw [Si_IsRelation_eq, Si_isName_val]
  unfold relB
  cases wordB r.1 65 90 with
  | false => rfl
  | true =>
    simp only [Option.bind_some, Bool.not_true, cond_false, Bool.true_and]
    by_cases h1 : r.2.1 < 0
    · have : ¬ (0 ≤ r.2.1) := by omega
      simp [h1, this]
    by_cases h2 : r.2.1 > 4
    · have : ¬ (r.2.1 ≤ 4) := by omega
      simp [h1, h2, this]
    by_cases h3 : (r.2.2.length : Int) > 8
    · have : ¬ ((r.2.2.length : Int) ≤ 8) := by omega
      simp only [h1, h2, h3, this, decide_false, decide_true, cond_false, cond_true, Bool.and_false, Bool.false_and]
    · have e1 : 0 ≤ r.2.1 := by omega
      have e2 : r.2.1 ≤ 4 := by omega
      have e3 : (r.2.2.length : Int) ≤ 8 := by omega
      simp only [h1, h2, h3, e1, e2, e3, decide_false, decide_true, cond_false, Bool.and_self, Bool.true_and]
      have := all_loop r.2.2 (rowB r.2.1) (some ((false, ()), ())) (some ((true, ()), ())) (fun i => Li_IsRelation_4 r r.2.2 (r.2.2.length : Int) i) (by omega) (fun i hi => by
        rw [Li_IsRelation_4_eq, getI_ok hi, wrap_succ (by omega)]
        simp only [lt_yes hi, cond_true, Option.bind_some, Si_isLabel_val, Si_IsCell_val]
        unfold rowB
        cases wordB r.2.2[i].1 97 122 <;> cases cellB r.2.2[i].2 <;> cases (r.2.2[i].2.1 != r.2.1) <;> rfl) (by rw [Li_IsRelation_4_eq, lt_no]; rfl) r.2.2.length 0 (by omega)
      simp only [List.drop_zero, Int.natCast_zero] at this
      rw [show Li_IsRelation_4 r r.2.2 (r.2.2.length : Int) 0 = _ from this]
      cases r.2.2.all _ <;> rfl

/-! ### the relations together -/
def named (n : ByteArray) (r : Rel) : Bool := r.1.toList == n.toList
theorem Ss_FindRelation_val (x : List Rel) (n : ByteArray) (hl : x.length ≤ 68719476736) : Ss_FindRelation x n = some ((findB (named n) x, ()), ()) := by
  rw [Ss_FindRelation_eq]
  exact find_loop x (named n) (fun i => some ((i, ()), ())) (fun i => Ls_FindRelation_2 x n i) (fun i hi => by
    rw [Ls_FindRelation_2_eq, getI_ok hi, wrap_succ (by omega)]
    simp only [lt_yes hi, cond_true, Option.bind_some]
    rfl) (by rw [Ls_FindRelation_2_eq, lt_no]; rfl) x.length 0 (by omega) (fun j _ h => by omega)
theorem Si_FindRelation_val (x : List Rel) (n : ByteArray) (hl : x.length ≤ 68719476736) : Si_FindRelation x n = some ((findB (named n) x, ()), ()) := by
  rw [Si_FindRelation_eq]
  exact find_loop x (named n) (fun i => some ((i, ()), ())) (fun i => Li_FindRelation_2 x n x (x.length : Int) i) (fun i hi => by
    rw [Li_FindRelation_2_eq, getI_ok hi, wrap_succ (by omega)]
    simp only [lt_yes hi, cond_true, Option.bind_some]
    rfl) (by rw [Li_FindRelation_2_eq, lt_no]; rfl) x.length 0 (by omega) (fun j _ h => by omega)
theorem findB_take {α : Type} (p : α → Bool) (x : List α) (i : Nat) (hi : i < x.length) (hp : p x[i] = true) : decide (findB p (x.take i) ≥ 0) = (findB p x != (i : Int)) := by
  have h1 : x.findIdx p ≤ i := Nat.le_of_not_lt fun h => by
    have := List.not_of_lt_findIdx h
    rw [hp] at this
    cases this
  have h2 : (x.take i).findIdx p = min i (x.findIdx p) := List.findIdx_take
  have h3 : (x.take i).length = i := by simp; omega
  unfold findB
  rw [h2, h3, if_pos (by omega : x.findIdx p < x.length)]
  by_cases h : x.findIdx p = i
  · rw [if_neg (by omega), h]
    simp
  · rw [if_pos (by omega)]
    have e1 : ((x.findIdx p : Nat) : Int) ≠ (i : Int) := by omega
    have e2 : ((min i (x.findIdx p) : Nat) : Int) ≥ 0 := by omega
    simp [e1, e2]
def allN (p : Nat → Bool) : Nat → Nat → Bool
  | 0, _ => true
  | n + 1, i => p i && allN p n (i + 1)
theorem idx_loop {R : Type} (l : Nat) (p : Nat → Bool) (F E : Option R) (f : Int → Option R)
    (h1 : ∀ (i : Nat), i < l → f (i : Int) = bif p i then f ((i + 1 : Nat) : Int) else F) (h2 : f (l : Int) = E) :
    ∀ (n i : Nat), n + i = l → f (i : Int) = bif allN p n i then E else F
  | 0, i, hn => by
    obtain rfl : i = l := by omega
    rw [h2]; rfl
  | n + 1, i, hn => by
    rw [h1 i (by omega), idx_loop l p F E f h1 h2 n (i + 1) (by omega)]
    cases h : p i <;> simp [allN, h]
def dbP (x : List Rel) (i : Nat) : Bool := match x[i]? with
  | some r => relB r && !(decide (findB (named r.1) (x.take i) ≥ 0))
  | none => true
def dbB (x : List Rel) : Bool := allN (dbP x) x.length 0 && decide ((x.length : Int) ≤ 6)
theorem Ss_IsDatabase_val (x : List Rel) (h : x.length ≤ 68719476736 ∧ ∀ a ∈ x, gL a) : Ss_IsDatabase x = some ((dbB x, ()), ()) := by
  obtain ⟨hl, hg⟩ := h
  rw [Ss_IsDatabase_eq]
  have := idx_loop x.length (dbP x) (some ((false, ()), ())) (Ls_IsDatabase_2 x (x.length : Int)) (fun i => Ls_IsDatabase_2 x i) (fun i hi => by
    rw [Ls_IsDatabase_2_eq, getI_ok hi, wrap_succ (by omega)]
    have e : (decide ((0 : Int) ≤ (i : Int)) && decide ((i : Int) ≤ (x.length : Int))) = true := by simp; omega
    have e2 : Ss_FindRelation (List.drop (Int.toNat 0) (List.take ((i : Int)).toNat x)) x[i].1 = some ((findB (named x[i].1) (x.take i), ()), ()) := by
      have : List.drop (Int.toNat 0) (List.take ((i : Int)).toNat x) = x.take i := by simp
      rw [this]
      exact Ss_FindRelation_val _ _ (by simp; omega)
    have e0 : (decide (0 ≤ 0) && decide ((0 : Int) ≤ (i : Int)) && decide ((i : Int) ≤ (x.length : Int))) = true := by simp; omega
    simp only [lt_yes hi, cond_true, Option.bind_some, Ss_IsRelation_val _ (hg _ (List.getElem_mem hi)), e2]
    rw [e0]
    unfold dbP
    rw [List.getElem?_eq_getElem hi]
    simp only []
    cases relB x[i] <;> cases decide (findB (named x[i].1) (x.take i) ≥ 0) <;> rfl) rfl x.length 0 (by omega)
  simp only [Int.natCast_zero] at this
  rw [show Ls_IsDatabase_2 x 0 = _ from this, Ls_IsDatabase_2_eq, lt_no]
  unfold dbB
  cases allN (dbP x) x.length 0 <;> rfl
theorem Si_IsDatabase_val (x : List Rel) : Si_IsDatabase x = some ((dbB x, ()), ()) := by
  rw [Si_IsDatabase_eq]
  unfold dbB
  by_cases h : (x.length : Int) > 6
  · have : ¬ ((x.length : Int) ≤ 6) := by omega
    simp only [h, this, decide_true, decide_false, cond_true, Bool.and_false]
  · have e : (x.length : Int) ≤ 6 := by omega
    simp only [h, e, decide_true, decide_false, cond_false, Bool.and_true]
    have := idx_loop x.length (dbP x) (some ((false, ()), ())) (some ((true, ()), ())) (fun i => Li_IsDatabase_4 x x (x.length : Int) i) (fun i hi => by
      rw [Li_IsDatabase_4_eq, getI_ok hi, wrap_succ (by omega)]
      simp only [lt_yes hi, cond_true, Option.bind_some, Si_IsRelation_val, Si_FindRelation_val _ _ (show x.length ≤ 68719476736 by omega)]
      unfold dbP
      rw [List.getElem?_eq_getElem hi]
      simp only []
      rw [findB_take _ x i hi (by simp [named])]
      cases relB x[i] <;> cases (findB (named x[i].1) x != (i : Int)) <;> rfl) (by rw [Li_IsDatabase_4_eq, lt_no]; rfl) x.length 0 (by omega)
    simp only [Int.natCast_zero] at this
    rw [show Li_IsDatabase_4 x x (x.length : Int) 0 = _ from this]
    cases allN (dbP x) x.length 0 <;> rfl

/-! ### formulas -/
theorem findB_or {α : Type} (p : α → Bool) (x : List α) : (decide (findB p x < 0) = true) ∨ (decide (findB p x < 0) = false ∧ ∃ y, getI x (findB p x) = some y) := by
  unfold findB
  by_cases h : x.findIdx p < x.length
  · right
    rw [if_pos h]
    refine ⟨by simp, x[x.findIdx p], getI_ok h⟩
  · left
    rw [if_neg h]
    decide
def emp (x : ByteArray) : Bool := x.toList == (ByteArray.mk #[]).toList
def zeroA (a : Atm) : Bool := ((a.1.length : Int) == 0) && ((a.2.1 == 0) && !a.2.2)
def varB (v : Int) : Bool := decide (0 ≤ v) && decide (v ≤ 3)
def noRow (n : Nod) : Bool := emp n.2.2.1 && (emp n.2.2.2.1 && !decide ((n.2.2.2.2.1.length : Int) > 0))
def lbB (x : ByteArray) : Bool := emp x || wordB x 97 122
def rowOk (db : List Rel) (n : Nod) : Bool := (n.2.2.2.2.1.all varB) && (!decide (findB (named n.2.2.1) db < 0) && (match getI db (findB (named n.2.2.1) db) with
  | some r => (r.2.1 == (n.2.2.2.2.1.length : Int)) && lbB n.2.2.2.1
  | none => false))
theorem Ss_l5NoAtom_val (a : Atm) : Ss_l5NoAtom a = some ((zeroA a, ()), ()) := by
  rw [Ss_l5NoAtom_eq]
  unfold zeroA
  generalize ((a.1.length : Int) == 0) = b1
  generalize (a.2.1 == 0) = b2
  cases b1 <;> cases b2 <;> rfl
theorem Si_isZeroAtom_val (a : Atm) : Si_isZeroAtom a = some ((zeroA a, ()), ()) := by
  rw [Si_isZeroAtom_eq]
  unfold zeroA
  generalize ((a.1.length : Int) == 0) = b1
  generalize (a.2.1 == 0) = b2
  cases b1 <;> cases b2 <;> rfl
theorem Si_isVariable_val (v : Int) : Si_isVariable v = some ((varB v, ()), ()) := by
  rw [Si_isVariable_eq]
  unfold varB
  by_cases h : v ≥ 0
  · have : (v < 4) = (v ≤ 3) := by apply propext; omega
    simp [h, this]
  · have : ¬ 0 ≤ v := by omega
    simp [h]
theorem Ls_l5Node_11_val (db : List Rel) (n : Nod) (hb : zN n ≤ 68719476736) : Ls_l5Node_11 db n (findB (named n.2.2.1) db) 0 = some ((rowOk db n, ()), ()) := by
  have hz : zN n = zA n.2.1 + zB n.2.2.1 + zB n.2.2.2.1 + zI n.2.2.2.2.1 := rfl
  have := all0 n.2.2.2.2.1 varB (some ((false, ()), ())) (Ls_l5Node_11 db n (findB (named n.2.2.1) db) (n.2.2.2.2.1.length : Int)) (fun i => Ls_l5Node_11 db n (findB (named n.2.2.1) db) i) (by unfold zI at hz; omega) (fun i hi => by
    rw [Ls_l5Node_11_eq, getI_ok hi, lt_yes hi, wrap_succ (by unfold zI at hz; omega)]
    simp only [cond_true, Option.bind_some, Ss_l1In_val]
    change (bif !varB _ then _ else _) = _
    cases varB n.2.2.2.2.1[i] <;> rfl) rfl
  rw [this, Ls_l5Node_11_eq, lt_no, cond_false]
  unfold rowOk
  have hd : decide (findB (named n.2.2.1) db ≥ 0) = !decide (findB (named n.2.2.1) db < 0) := by
    by_cases h : findB (named n.2.2.1) db < 0
    · have : ¬ findB (named n.2.2.1) db ≥ 0 := by omega
      simp [h]
    · have : findB (named n.2.2.1) db ≥ 0 := by omega
      simp [h, this]
  rw [hd, Ss_l5Word_val _ _ _ (by unfold zB at hz; omega)]
  cases n.2.2.2.2.1.all varB with
  | false => rfl
  | true =>
    rcases findB_or (named n.2.2.1) db with h | ⟨h, r, hr⟩
    · rw [h]; rfl
    · rw [h, hr]
      simp only [Bool.not_false, cond_true, Option.bind_some, Bool.true_and]
      unfold lbB emp
      generalize (r.2.1 == (n.2.2.2.2.1.length : Int)) = b1
      generalize (ByteArray.toList n.2.2.2.1 == (ByteArray.mk #[]).toList) = b2
      cases b1 <;> cases b2 <;> rfl
def j5B (db : List Rel) (n : Nod) : Bool := bif n.1 == 0 then atomB n.2.1 && ((n.2.1.1.length : Int) == 4) else bif n.1 == 1 then rowOk db n else (decide (2 ≤ n.1) && decide (n.1 ≤ 6)) && varB n.2.2.2.2.2.1
theorem Js_l5Node_5_val (db : List Rel) (n : Nod) (hd : db.length ≤ 68719476736) (hb : zN n ≤ 68719476736) : Js_l5Node_5 db n = some ((j5B db n, ()), ()) := by
  rw [Js_l5Node_5_eq, Ss_IsAtom_val, Ss_FindRelation_val _ _ hd]
  simp only [Option.bind_some, Ls_l5Node_11_val db n hb, Ss_l1In_val]
  unfold j5B varB
  generalize (n.1 == 0) = b0
  generalize (n.1 == 1) = b1
  generalize (atomB n.2.1) = b2
  generalize (decide (2 ≤ n.1) && decide (n.1 ≤ 6)) = b3
  cases b0 <;> cases b1 <;> cases b2 <;> cases b3 <;> rfl
def abB (n : Nod) : Bool := ((n.1 == 3 || n.1 == 4) || n.2.2.2.2.2.2.2 == 0) && (!decide (n.1 ≤ 1) || n.2.2.2.2.2.2.1 == 0)
def vrB (n : Nod) : Bool := (n.1 == 5 || n.1 == 6) || n.2.2.2.2.2.1 == 0
theorem Js_l5Node_3_val (db : List Rel) (n : Nod) (hd : db.length ≤ 68719476736) (hb : zN n ≤ 68719476736) : Js_l5Node_3 db n = some ((vrB n && (abB n && j5B db n), ()), ()) := by
  rw [Js_l5Node_3_eq, Js_l5Node_5_val db n hd hb]
  unfold vrB abB
  simp only [bne]
  generalize (n.1 == 5) = b5
  generalize (n.1 == 6) = b6
  generalize (n.1 == 3) = b3
  generalize (n.1 == 4) = b4
  generalize (decide (n.1 ≤ 1)) = b1
  generalize (n.2.2.2.2.2.1 == 0) = c1
  generalize (n.2.2.2.2.2.2.1 == 0) = c2
  generalize (n.2.2.2.2.2.2.2 == 0) = c3
  cases b5 <;> cases b6 <;> cases b3 <;> cases b4 <;> cases b1 <;> cases c1 <;> cases c2 <;> cases c3 <;> rfl
def okN (db : List Rel) (n : Nod) : Bool := (n.1 == 0 || zeroA n.2.1) && ((n.1 == 1 || noRow n) && (vrB n && (abB n && j5B db n)))
theorem Ss_l5Node_val (db : List Rel) (n : Nod) (hd : db.length ≤ 68719476736) (hb : zN n ≤ 68719476736) : Ss_l5Node db n = some ((okN db n, ()), ()) := by
  rw [Ss_l5Node_eq, Js_l5Node_3_val db n hd hb, Ss_l5NoAtom_val]
  unfold okN noRow emp
  simp only [bne, Option.bind_some]
  generalize (n.1 == 0) = b0
  generalize (n.1 == 1) = b1
  generalize zeroA n.2.1 = b2
  generalize (ByteArray.toList n.2.2.1 == (ByteArray.mk #[]).toList) = b3
  generalize (ByteArray.toList n.2.2.2.1 == (ByteArray.mk #[]).toList) = b4
  generalize (decide ((n.2.2.2.2.1.length : Int) > 0)) = b5
  generalize (vrB n && (abB n && j5B db n)) = b6
  cases b0 <;> cases b1 <;> cases b2 <;> cases b3 <;> cases b4 <;> cases b5 <;> rfl
theorem Ji_fieldsFit_12_val (n : Nod) (hb : n.2.2.2.2.1.length ≤ 68719476736) : Ji_fieldsFit_12 n = some ((n.2.2.2.2.1.all varB, ()), ()) := by
  rw [Ji_fieldsFit_12_eq]
  have := all0 n.2.2.2.2.1 varB (some ((false, ()), ())) (some ((true, ()), ())) (fun i => Li_fieldsFit_13 n n.2.2.2.2.1 (n.2.2.2.2.1.length : Int) i) hb (fun i hi => by
    rw [Li_fieldsFit_13_eq, getI_ok hi, lt_yes hi, wrap_succ (by omega)]
    simp only [cond_true, Option.bind_some, Si_isVariable_val]
    cases varB n.2.2.2.2.1[i] <;> rfl) (by rw [Li_fieldsFit_13_eq, lt_no]; rfl)
  rw [this]
  cases n.2.2.2.2.1.all varB <;> rfl
def j5I (db : List Rel) (n : Nod) : Bool := bif n.1 == 0 then (n.2.2.2.2.2.1 == 0) && (atomB n.2.1 && ((n.2.1.1.length : Int) == 4)) else bif n.1 == 1 then (n.2.2.2.2.2.1 == 0) && rowOk db n else bif n.1 == 5 || n.1 == 6 then varB n.2.2.2.2.2.1 else n.2.2.2.2.2.1 == 0
theorem Ji_fieldsFit_5_val (db : List Rel) (n : Nod) (hd : db.length ≤ 68719476736) (hb : zN n ≤ 68719476736) : Ji_fieldsFit_5 db n = some ((j5I db n, ()), ()) := by
  have hz : zN n = zA n.2.1 + zB n.2.2.1 + zB n.2.2.2.1 + zI n.2.2.2.2.1 := rfl
  rw [Ji_fieldsFit_5_eq, Si_IsAtom_val, Si_FindRelation_val _ _ hd, Si_isLabel_val, Ji_fieldsFit_12_val n (by unfold zI at hz; omega), Ji_fieldsFit_21_eq, Ji_fieldsFit_21_eq, Si_isVariable_val]
  simp only [Option.bind_some, bne]
  unfold j5I rowOk lbB emp
  rcases findB_or (named n.2.2.1) db with h | ⟨h, r, hr⟩
  · rw [h]
    generalize (n.1 == 0) = b0
    generalize (n.1 == 1) = b1
    generalize (n.1 == 5) = b5
    generalize (n.1 == 6) = b6
    generalize (n.2.2.2.2.2.1 == 0) = c1
    generalize (atomB n.2.1) = b2
    generalize (n.2.2.2.2.1.all varB) = b3
    cases b0 <;> cases b1 <;> cases b5 <;> cases b6 <;> cases c1 <;> cases b2 <;> cases b3 <;> rfl
  · rw [h, hr]
    simp only [Option.bind_some]
    generalize (n.1 == 0) = b0
    generalize (n.1 == 1) = b1
    generalize (n.1 == 5) = b5
    generalize (n.1 == 6) = b6
    generalize (n.2.2.2.2.2.1 == 0) = c1
    generalize (atomB n.2.1) = b2
    generalize (n.2.2.2.2.1.all varB) = b3
    generalize (r.2.1 == (n.2.2.2.2.1.length : Int)) = c2
    generalize (ByteArray.toList n.2.2.2.1 == (ByteArray.mk #[]).toList) = c3
    generalize wordB n.2.2.2.1 97 122 = c4
    cases b0 <;> cases b1 <;> cases b5 <;> cases b6 <;> cases c1 <;> cases b2 <;> cases b3 <;> cases c2 <;> cases c3 <;> cases c4 <;> rfl
def fitB (db : List Rel) (n : Nod) : Bool := (n.1 == 0 || zeroA n.2.1) && ((n.1 == 1 || noRow n) && j5I db n)
theorem Si_fieldsFit_val (db : List Rel) (n : Nod) (hd : db.length ≤ 68719476736) (hb : zN n ≤ 68719476736) : Si_fieldsFit db n = some ((fitB db n, ()), ()) := by
  rw [Si_fieldsFit_eq, Ji_fieldsFit_3_eq, Ji_fieldsFit_5_val db n hd hb, Si_isZeroAtom_val]
  unfold fitB noRow emp
  simp only [bne, Option.bind_some]
  generalize (n.1 == 0) = b0
  generalize (n.1 == 1) = b1
  generalize zeroA n.2.1 = b2
  generalize (ByteArray.toList n.2.2.1 == (ByteArray.mk #[]).toList) = b3
  generalize (ByteArray.toList n.2.2.2.1 == (ByteArray.mk #[]).toList) = b4
  generalize (decide ((n.2.2.2.2.1.length : Int) > 0)) = b5
  generalize j5I db n = b6
  cases b0 <;> cases b1 <;> cases b2 <;> cases b3 <;> cases b4 <;> cases b5 <;> rfl
/-- What the reference asks of a node is what the program asks, and of the parts' fields. -/
theorem okN_is (db : List Rel) (n : Nod) : okN db n = (fitB db n && (abB n && (decide (0 ≤ n.1) && decide (n.1 ≤ 6)))) := by
  unfold okN fitB
  have key : (vrB n && (abB n && j5B db n)) = (j5I db n && (abB n && (decide (0 ≤ n.1) && decide (n.1 ≤ 6)))) := by
    unfold vrB j5B j5I
    by_cases h0 : n.1 = 0
    · rw [h0]
      cases (n.2.2.2.2.2.1 == 0) <;> cases abB n <;> cases (atomB n.2.1 && ((n.2.1.1.length : Int) == 4)) <;> rfl
    by_cases h1 : n.1 = 1
    · rw [h1]
      cases (n.2.2.2.2.2.1 == 0) <;> cases abB n <;> cases rowOk db n <;> rfl
    by_cases h2 : 2 ≤ n.1 ∧ n.1 ≤ 6
    · have e0 : (n.1 == 0) = false := by simpa using h0
      have e1 : (n.1 == 1) = false := by simpa using h1
      have e2 : decide (2 ≤ n.1) = true := by simp [h2.1]
      have e3 : decide (n.1 ≤ 6) = true := by simp [h2.2]
      have e4 : decide (0 ≤ n.1) = true := by simp; omega
      rw [e0, e1, e2, e3, e4]
      by_cases h5 : n.2.2.2.2.2.1 = 0
      · rw [h5]
        cases (n.1 == 5) <;> cases (n.1 == 6) <;> cases abB n <;> rfl
      · have e5 : (n.2.2.2.2.2.1 == 0) = false := by simpa using h5
        rw [e5]
        cases (n.1 == 5) <;> cases (n.1 == 6) <;> cases abB n <;> cases varB n.2.2.2.2.2.1 <;> rfl
    · have e0 : (n.1 == 0) = false := by simpa using h0
      have e1 : (n.1 == 1) = false := by simpa using h1
      have e2 : (decide (2 ≤ n.1) && decide (n.1 ≤ 6)) = false := by
        rw [Bool.and_eq_false_iff]
        by_cases h : 2 ≤ n.1
        · right; simp; omega
        · left; simp; omega
      have e3 : (decide (0 ≤ n.1) && decide (n.1 ≤ 6)) = false := by
        rw [Bool.and_eq_false_iff]
        by_cases h : 0 ≤ n.1
        · right; simp; omega
        · left; simp; omega
      rw [e0, e1, e2, e3]
      simp
  rw [key]
  simp only [Bool.and_assoc]

/-! ### lists of nodes: what waits is a stack, the last one first -/
def ar (k : Int) : Nat := bif k == 3 || k == 4 then 2 else bif decide (k > 1) then 1 else 0
def stkN (n : Nod) (i : Int) (T : List Int) : Option (List Int) := match ar n.1, T with
  | 0, T => some (i :: T)
  | 1, r :: T => bif r == n.2.2.2.2.2.2.1 then some (i :: T) else none
  | 2, r :: s :: T => bif r == n.2.2.2.2.2.2.2 then bif s == n.2.2.2.2.2.2.1 then some (i :: T) else none else none
  | _, _ => none
def frm (db : List Rel) : List Nod → Int → List Int → Bool
  | [], _, T => (T.length : Int) == 1
  | n :: l, i, T => bif okN db n then (match stkN n i T with
    | some T' => frm db l (i + 1) T'
    | none => false) else false
theorem ar_le (k : Int) : ar k = 0 ∨ ar k = 1 ∨ ar k = 2 := by
  unfold ar
  cases (k == 3 || k == 4) <;> cases decide (k > 1) <;> simp
theorem getI_at {α : Type} (x : List α) {i : Int} (j : Nat) (h : i = (j : Int)) (hj : j < x.length) : getI x i = some x[j] := by
  subst h; exact getI_ok hj
/-- Of a list turned round. -/
theorem getI_last {α : Type} (T : List α) (r : α) : getI (r :: T).reverse (((r :: T).reverse.length : Int) - 1) = some r := by
  rw [getI_at _ T.length (by simp) (by simp)]
  simp
theorem getI_last2 {α : Type} (T : List α) (r s : α) : getI (r :: s :: T).reverse (((r :: s :: T).reverse.length : Int) - 2) = some s := by
  rw [getI_at _ T.length (by simp <;> omega) (by simp <;> omega)]
  simp [List.getElem_append]
theorem Js_IsFormula_17_val (db : List Rel) (f : List Nod) (T U : List Int) (i : Nat) (m : Nat) (hi : i ≤ 1000000) (hT : (U.reverse ++ T.reverse).length ≤ 1000000) (hm : U.length = m) :
    Js_IsFormula_17 db f (T.reverse ++ U.reverse) (i : Int) (m : Int) ((T.reverse ++ U.reverse).length : Int) = Ls_IsFormula_5 db f ((i : Int) :: T).reverse ((i + 1 : Nat) : Int) := by
  have hl : (T.reverse ++ U.reverse).length = T.length + m := by simp [hm]
  have hle : T.length + m ≤ 1000000 := by simp at hT; omega
  rw [Js_IsFormula_17_eq, hl, wrap_id (by omega) (by omega)]
  have e1 : ((T.length + m : Nat) : Int) - (m : Int) = (T.length : Int) := by omega
  rw [e1, wrap_succ (by omega)]
  have e2 : (List.drop (Int.toNat 0) (List.take (Int.toNat (T.length : Int)) (T.reverse ++ U.reverse))) = T.reverse := by
    rw [Int.toNat_natCast]
    simp
  rw [e2]
  have d1 : decide ((0 : Int) ≤ (T.length : Int)) = true := by simp
  have d2 : decide ((T.length : Int) ≤ ((T.length + m : Nat) : Int)) = true := decide_eq_true (by omega)
  have d3 : decide ((0 + T.reverse.length) * 8 ≤ 140737488355328) = true := by simp; omega
  have d4 : decide ((T.reverse.length + 1) * 8 ≤ 140737488355328) = true := by simp; omega
  rw [d1, d2, d3, d4]
  simp

theorem Js_IsFormula_14_val (db : List Rel) (f : List Nod) (T : List Int) (i : Nat) (h : i < f.length) (hl : f.length ≤ 1000000) (hT : T.length ≤ i) :
    Js_IsFormula_14 db f T.reverse (i : Int) ((ar f[i].1 : Nat) : Int) = match stkN f[i] i T with
      | some T' => Ls_IsFormula_5 db f T'.reverse ((i + 1 : Nat) : Int)
      | none => some ((false, ()), ()) := by
  rw [Js_IsFormula_14_eq]
  unfold stkN
  rcases ar_le f[i].1 with hm | hm | hm
  · rw [hm]
    have d : decide ((T.reverse.length : Int) < ((0 : Nat) : Int)) = false := by simp
    have := Js_IsFormula_17_val db f T [] i 0 (by omega) (by simp; omega) rfl
    simp only [List.reverse_nil, List.append_nil] at this
    rw [d]
    exact this
  · rw [hm]
    cases T with
    | nil => rfl
    | cons r T =>
      have d : decide (((r :: T).reverse.length : Int) < ((1 : Nat) : Int)) = false := decide_eq_false (by simp only [List.length_reverse, List.length_cons]; omega)
      have hw : IntKind.i64.wrap (((r :: T).reverse.length : Int) - 1) = ((r :: T).reverse.length : Int) - 1 := wrap_id (by simp only [List.length_reverse, List.length_cons]; omega) (by simp only [List.length_reverse, List.length_cons] at hT ⊢; omega)
      have := Js_IsFormula_17_val db f T [r] i 1 (by omega) (by simp only [List.length_append, List.length_reverse, List.length_cons, List.length_nil] at hT ⊢; omega) rfl
      rw [show T.reverse ++ [r].reverse = (r :: T).reverse by simp] at this
      rw [d, hw, getI_last, getI_ok h]
      simp only [cond_false, Option.bind_some]
      change (bif r != f[i].2.2.2.2.2.2.1 then _ else Js_IsFormula_17 db f (r :: T).reverse (i : Int) ((1 : Nat) : Int) ((r :: T).reverse.length : Int)) = _
      rw [this]
      simp only [bne]
      cases (r == f[i].2.2.2.2.2.2.1) <;> rfl
  · rw [hm]
    match T, hT with
    | [], _ => rfl
    | [r], _ => rfl
    | r :: s :: T, hT =>
      have d : decide (((r :: s :: T).reverse.length : Int) < ((2 : Nat) : Int)) = false := decide_eq_false (by simp only [List.length_reverse, List.length_cons]; omega)
      have hw : IntKind.i64.wrap (((r :: s :: T).reverse.length : Int) - 1) = ((r :: s :: T).reverse.length : Int) - 1 := wrap_id (by simp only [List.length_reverse, List.length_cons]; omega) (by simp only [List.length_reverse, List.length_cons] at hT ⊢; omega)
      have hw2 : IntKind.i64.wrap (((r :: s :: T).reverse.length : Int) - 2) = ((r :: s :: T).reverse.length : Int) - 2 := wrap_id (by simp only [List.length_reverse, List.length_cons]; omega) (by simp only [List.length_reverse, List.length_cons] at hT ⊢; omega)
      have := Js_IsFormula_17_val db f T [r, s] i 2 (by omega) (by simp only [List.length_append, List.length_reverse, List.length_cons, List.length_nil] at hT ⊢; omega) rfl
      rw [show T.reverse ++ [r, s].reverse = (r :: s :: T).reverse by simp] at this
      rw [d, hw, hw2, getI_last, getI_last2, getI_ok h]
      simp only [cond_false, Option.bind_some]
      change (bif r != f[i].2.2.2.2.2.2.2 then _ else bif s != f[i].2.2.2.2.2.2.1 then _ else Js_IsFormula_17 db f (r :: s :: T).reverse (i : Int) ((2 : Nat) : Int) ((r :: s :: T).reverse.length : Int)) = _
      rw [this]
      simp only [bne]
      cases (r == f[i].2.2.2.2.2.2.2) <;> cases (s == f[i].2.2.2.2.2.2.1) <;> rfl
theorem stkN_len {n : Nod} {i : Int} {T T' : List Int} (h : stkN n i T = some T') : T'.length ≤ T.length + 1 := by
  unfold stkN at h
  split at h
  · injection h with h; subst h; simp
  · rename_i r T0 _
    cases hc : (r == n.2.2.2.2.2.2.1) with
    | true => rw [hc] at h; injection h with h; subst h; simp
    | false => rw [hc] at h; cases h
  · rename_i r s T0 _
    cases hc : (r == n.2.2.2.2.2.2.2) with
    | true =>
      rw [hc] at h
      cases hs : (s == n.2.2.2.2.2.2.1) with
      | true => rw [hs] at h; injection h with h; subst h; simp
      | false => rw [hs] at h; cases h
    | false => rw [hc] at h; cases h
  · cases h
theorem Ls_IsFormula_5_val (db : List Rel) (f : List Nod) (hd : db.length ≤ 68719476736) (hf : ∀ n ∈ f, zN n ≤ 68719476736) (hl : f.length ≤ 1000000) :
    ∀ (n i : Nat) (T : List Int), n + i = f.length → T.length ≤ i → Ls_IsFormula_5 db f T.reverse (i : Int) = some ((frm db (f.drop i) i T, ()), ())
  | 0, i, T, hn, hT => by
    obtain rfl : i = f.length := by omega
    rw [Ls_IsFormula_5_eq, lt_no, List.drop_eq_nil_of_le (by omega), List.length_reverse]
    rfl
  | n + 1, i, T, hn, hT => by
    have hi : i < f.length := by omega
    rw [Ls_IsFormula_5_eq, lt_yes hi, getI_ok hi, List.drop_eq_getElem_cons hi]
    simp only [cond_true, Option.bind_some, Ss_l5Node_val db _ hd (hf _ (List.getElem_mem hi))]
    unfold frm
    cases okN db f[i] with
    | false => rfl
    | true =>
      simp only [Bool.not_true, cond_false, cond_true]
      have e : (bif f[i].1 == 3 then Js_IsFormula_14 db f T.reverse (i : Int) 2 else bif f[i].1 == 4 then Js_IsFormula_14 db f T.reverse (i : Int) 2 else bif decide (f[i].1 > 1) then Js_IsFormula_14 db f T.reverse (i : Int) 1 else Js_IsFormula_14 db f T.reverse (i : Int) 0) = Js_IsFormula_14 db f T.reverse (i : Int) ((ar f[i].1 : Nat) : Int) := by
        unfold ar
        cases (f[i].1 == 3) <;> cases (f[i].1 == 4) <;> cases decide (f[i].1 > 1) <;> rfl
      rw [e, Js_IsFormula_14_val db f T i hi hl hT]
      cases hs : stkN f[i] (i : Int) T with
      | none => rfl
      | some T' =>
        have := stkN_len hs
        simp only []
        rw [Ls_IsFormula_5_val db f hd hf hl n (i + 1) T' (by omega) (by omega)]
        simp
def Chn (st : List Int) : List Int → Int → Prop
  | [], nx => nx = -1
  | r :: T, nx => r = nx ∧ ∃ (j : Nat) (v : Int), r = (j : Int) ∧ st[j]? = some v ∧ 0 ≤ v ∧ v ≤ r ∧ Chn st T (v - 1)
theorem Chn.set {st : List Int} {i : Nat} {v : Int} : ∀ {T : List Int} {nx : Int}, Chn st T nx → nx < i → Chn (st.set i v) T nx
  | [], nx, h, _ => h
  | r :: T, nx, h, hi => by
    simp only [Chn] at h ⊢
    obtain ⟨h1, j, w, h2, h3, h4, h5, h6⟩ := h
    refine ⟨h1, j, w, h2, ?_, h4, h5, Chn.set h6 (by omega)⟩
    rw [List.getElem?_set_ne (by omega)]
    exact h3
theorem Si_partsIn_val (k : Int) : Si_partsIn k = some ((bif k == 0 || k == 1 then 0 else bif k == 2 || (k == 5 || k == 6) then 1 else bif k == 3 || k == 4 then 2 else -1, ()), ()) := by
  rw [Si_partsIn_eq]
  cases (k == 0) <;> cases (k == 1) <;> cases (k == 2) <;> cases (k == 5) <;> cases (k == 6) <;> cases (k == 3) <;> cases (k == 4) <;> rfl
theorem setBind {α β : Type} (x : α) (k : α → Option β) : (some x).bind k = k x := rfl
theorem Li_IsFormula_5_val (db : List Rel) (f : List Nod) (hd : db.length ≤ 68719476736) (hf : ∀ n ∈ f, zN n ≤ 68719476736) (hl : f.length ≤ 1000000) (h0 : f.length ≠ 0) :
    ∀ (n i : Nat) (st T : List Int), n + i = f.length → st.length = f.length → Chn st T ((i : Int) - 1) → Li_IsFormula_5 db f st f (f.length : Int) (i : Int) = some ((frm db (f.drop i) i T, ()), ())
  | 0, i, st, T, hn, hst, hT => by
    obtain rfl : i = f.length := by omega
    rw [Li_IsFormula_5_eq, lt_no, List.drop_eq_nil_of_le (by omega), wrap_id (by omega) (by omega)]
    cases T with
    | nil => simp only [Chn] at hT; omega
    | cons r T =>
      simp only [Chn] at hT
      obtain ⟨h1, j, v, h2, h3, h4, h5, h6⟩ := hT
      obtain ⟨hj, h3⟩ := List.getElem?_eq_some_iff.1 h3
      rw [getI_at (i := (f.length : Int) - 1) st j (by omega) hj, h3]
      simp only [cond_false, Option.bind_some, frm]
      congr 3
      cases T with
      | nil =>
        simp only [Chn] at h6
        have : v = 0 := by omega
        simp [this]
      | cons s T =>
        simp only [Chn] at h6
        have : v ≠ 0 := by omega
        have e1 : (v == 0) = false := by simpa using this
        have e2 : (((r :: s :: T).length : Int) == 1) = false := by simp; omega
        rw [e1, e2]
  | n + 1, i, st, T, hn, hst, hT => by
    have hi : i < f.length := by omega
    have his : i < st.length := by omega
    have hw : IntKind.i64.wrap ((i : Int) - 1) = (i : Int) - 1 := wrap_id (by omega) (by omega)
    rw [Li_IsFormula_5_eq, lt_yes hi, getI_ok hi, List.drop_eq_getElem_cons hi, getI_ok his, hw]
    simp only [cond_true, Option.bind_some, Si_fieldsFit_val db _ hd (hf _ (List.getElem_mem hi)), Si_partsIn_val, Ji_IsFormula_23_eq, wrap_succ (show i ≤ 1000000000000 by omega), setBind, Int.toNat_natCast]
    unfold frm
    rw [okN_is]
    generalize hN : f[i] = N
    cases fitB db N with
    | false => rfl
    | true =>
      simp only [Bool.not_true, cond_false, Bool.true_and]
      -- by kinds
      have hgo : ∀ (v : Int) (T' : List Int), 0 ≤ v → v ≤ (i : Int) → Chn st T' (v - 1) → v - 1 < (i : Int) → Li_IsFormula_5 db f (st.set i v) f (f.length : Int) ((i + 1 : Nat) : Int) = some ((frm db (f.drop (i + 1)) ((i + 1 : Nat) : Int) ((i : Int) :: T'), ()), ()) := by
        intro v T' hv0 hv hc hlt
        refine Li_IsFormula_5_val db f hd hf hl h0 n (i + 1) _ _ (by omega) (by simpa using hst) ?_
        simp only [Chn]
        refine ⟨by omega, i, v, rfl, by simp [his], hv0, hv, hc.set hlt⟩
      have hcast : ((i : Int) + 1) = ((i + 1 : Nat) : Int) := by omega
      rw [hcast]
      by_cases k01 : N.1 = 0 ∨ N.1 = 1
      · have e1 : (N.1 == 0 || N.1 == 1) = true := by simpa using k01
        have e2 : ar N.1 = 0 := by rcases k01 with h | h <;> rw [h] <;> rfl
        have e3 : ((N.1 == 3 || N.1 == 4) || N.2.2.2.2.2.2.2 == 0) = (N.2.2.2.2.2.2.2 == 0) := by rcases k01 with h | h <;> rw [h] <;> rfl
        have e4 : decide (N.1 ≤ 1) = true := by rcases k01 with h | h <;> rw [h] <;> rfl
        have e5 : (decide (0 ≤ N.1) && decide (N.1 ≤ 6)) = true := by rcases k01 with h | h <;> rw [h] <;> rfl
        have e6 : stkN N (i : Int) T = some ((i : Int) :: T) := by unfold stkN; rw [e2]; rfl
        unfold abB
        rw [e1, e3, e4, e5, e6, hgo (i : Int) T (by omega) (by omega) hT (by omega)]
        simp only [bne]
        cases (N.2.2.2.2.2.2.1 == 0) <;> cases (N.2.2.2.2.2.2.2 == 0) <;> rfl
      · by_cases k1 : N.1 = 2 ∨ N.1 = 5 ∨ N.1 = 6
        · have e0 : (N.1 == 0 || N.1 == 1) = false := by rcases k1 with h | h | h <;> rw [h] <;> rfl
          have e1 : (N.1 == 2 || (N.1 == 5 || N.1 == 6)) = true := by rcases k1 with h | h | h <;> rw [h] <;> rfl
          have e2 : ar N.1 = 1 := by rcases k1 with h | h | h <;> rw [h] <;> rfl
          have e3 : ((N.1 == 3 || N.1 == 4) || N.2.2.2.2.2.2.2 == 0) = (N.2.2.2.2.2.2.2 == 0) := by rcases k1 with h | h | h <;> rw [h] <;> rfl
          have e4 : decide (N.1 ≤ 1) = false := by rcases k1 with h | h | h <;> rw [h] <;> rfl
          have e5 : (decide (0 ≤ N.1) && decide (N.1 ≤ 6)) = true := by rcases k1 with h | h | h <;> rw [h] <;> rfl
          unfold abB
          rw [e0, e1, e3, e4, e5]
          cases T with
          | nil =>
            simp only [Chn] at hT
            have ei : ((i : Int) == 0) = true := by simp; omega
            have e6 : stkN N (i : Int) [] = none := by unfold stkN; rw [e2]; rfl
            rw [ei, e6]
            cases (N.2.2.2.2.2.2.2 == 0) <;> rfl
          | cons r T =>
            simp only [Chn] at hT
            obtain ⟨h1, j, v, h2, h3, h4, h5, h6⟩ := hT
            obtain ⟨hj, h3⟩ := List.getElem?_eq_some_iff.1 h3
            have ei : ((i : Int) == 0) = false := by simp; omega
            have e6 : stkN N (i : Int) (r :: T) = bif r == N.2.2.2.2.2.2.1 then some ((i : Int) :: T) else none := by unfold stkN; rw [e2]; rfl
            have e7 : (N.2.2.2.2.2.2.1 == (i : Int) - 1) = (r == N.2.2.2.2.2.2.1) := by rw [← h1, Bool.eq_iff_iff]; simp only [beq_iff_eq]; exact eq_comm
            rw [ei, e6, getI_at (i := (i : Int) - 1) st j (by omega) hj, h3]
            simp only [bne, e7, Option.bind_some]
            rw [hgo v T h4 (by omega) h6 (by omega)]
            cases (N.2.2.2.2.2.2.2 == 0) <;> cases (r == N.2.2.2.2.2.2.1) <;> rfl
        · by_cases k2 : N.1 = 3 ∨ N.1 = 4
          · have e0 : (N.1 == 0 || N.1 == 1) = false := by rcases k2 with h | h <;> rw [h] <;> rfl
            have e1 : (N.1 == 2 || (N.1 == 5 || N.1 == 6)) = false := by rcases k2 with h | h <;> rw [h] <;> rfl
            have e2 : ar N.1 = 2 := by rcases k2 with h | h <;> rw [h] <;> rfl
            have e3 : (N.1 == 3 || N.1 == 4) = true := by rcases k2 with h | h <;> rw [h] <;> rfl
            have e4 : decide (N.1 ≤ 1) = false := by rcases k2 with h | h <;> rw [h] <;> rfl
            have e5 : (decide (0 ≤ N.1) && decide (N.1 ≤ 6)) = true := by rcases k2 with h | h <;> rw [h] <;> rfl
            unfold abB
            rw [e0, e1, e3, e4, e5]
            cases T with
            | nil =>
              simp only [Chn] at hT
              have ei : ((i : Int) == 0) = true := by simp; omega
              have e6 : stkN N (i : Int) [] = none := by unfold stkN; rw [e2]; rfl
              rw [ei, e6]
              rfl
            | cons r T =>
              simp only [Chn] at hT
              obtain ⟨h1, j, v, h2, h3, h4, h5, h6⟩ := hT
              obtain ⟨hj, h3⟩ := List.getElem?_eq_some_iff.1 h3
              have ei : ((i : Int) == 0) = false := by simp; omega
              have e7 : (N.2.2.2.2.2.2.2 == (i : Int) - 1) = (r == N.2.2.2.2.2.2.2) := by rw [← h1, Bool.eq_iff_iff]; simp only [beq_iff_eq]; exact eq_comm
              rw [ei, getI_at (i := (i : Int) - 1) st j (by omega) hj, h3]
              simp only [bne, e7, Option.bind_some]
              cases T with
              | nil =>
                simp only [Chn] at h6
                have ev : (v == 0) = true := by simp; omega
                have e6 : stkN N (i : Int) [r] = none := by unfold stkN; rw [e2]; rfl
                rw [ev, e6]
                cases (r == N.2.2.2.2.2.2.2) <;> rfl
              | cons s T =>
                have h6' := h6
                simp only [Chn] at h6'
                obtain ⟨g1, j2, v2, g2, g3, g4, g5, g6⟩ := h6'
                obtain ⟨hj2, g3⟩ := List.getElem?_eq_some_iff.1 g3
                have ev : (v == 0) = false := by simp; omega
                have e6 : stkN N (i : Int) (r :: s :: T) = bif r == N.2.2.2.2.2.2.2 then bif s == N.2.2.2.2.2.2.1 then some ((i : Int) :: T) else none else none := by unfold stkN; rw [e2]; rfl
                rw [ev, e6, wrap_id (x := v - 1) (by omega) (by omega)]
                have e8 : (N.2.2.2.2.2.2.1 == v - 1) = (s == N.2.2.2.2.2.2.1) := by rw [← g1, Bool.eq_iff_iff]; simp only [beq_iff_eq]; exact eq_comm
                simp only [e8]
                cases hs : (s == N.2.2.2.2.2.2.1) with
                | false => cases (r == N.2.2.2.2.2.2.2) <;> rfl
                | true =>
                  rw [beq_iff_eq] at hs
                  rw [← hs, getI_at st j2 g2 hj2, g3]
                  simp only [Option.bind_some]
                  rw [hgo v2 T g4 (by omega) g6 (by omega)]
                  cases (r == N.2.2.2.2.2.2.2) <;> rfl
          · have e0 : (N.1 == 0 || N.1 == 1) = false := by simpa using k01
            have e1 : (N.1 == 2 || (N.1 == 5 || N.1 == 6)) = false := by simpa using k1
            have e2 : (N.1 == 3 || N.1 == 4) = false := by simpa using k2
            have e5 : (decide (0 ≤ N.1) && decide (N.1 ≤ 6)) = false := by
              rw [Bool.and_eq_false_iff]
              by_cases h : 0 ≤ N.1
              · right; simp; omega
              · left; simp; omega
            rw [e0, e1, e2, e5]
            simp
def formB (db : List Rel) (f : List Nod) : Bool := dbB db && ((decide (1 ≤ (f.length : Int)) && decide ((f.length : Int) ≤ 12)) && frm db f 0 [])
theorem dbB_len {db : List Rel} (h : dbB db = true) : db.length ≤ 6 := by
  unfold dbB at h
  simp only [Bool.and_eq_true, decide_eq_true_eq] at h
  omega
theorem Ss_IsFormula_val (db : List Rel) (f : List Nod) (hd : db.length ≤ 68719476736 ∧ ∀ a ∈ db, gL a) (hf : ∀ n ∈ f, zN n ≤ 68719476736) : Ss_IsFormula db f = some ((formB db f, ()), ()) := by
  rw [Ss_IsFormula_eq, Ss_IsDatabase_val db hd, Ss_l1In_val]
  simp only [Option.bind_some]
  unfold formB
  cases hb : dbB db with
  | false => rfl
  | true =>
    cases hc : (decide (1 ≤ (f.length : Int)) && decide ((f.length : Int) ≤ 12)) with
    | false => rfl
    | true =>
      simp only [Bool.and_eq_true, decide_eq_true_eq] at hc
      have := Ls_IsFormula_5_val db f hd.1 hf (by omega) f.length 0 [] (by omega) (by simp)
      simp only [List.drop_zero, Int.natCast_zero, List.reverse_nil] at this
      simp only [Bool.not_true, cond_false, Bool.true_and]
      exact this
theorem Si_IsFormula_val (db : List Rel) (f : List Nod) (hf : ∀ n ∈ f, zN n ≤ 68719476736) : Si_IsFormula db f = some ((formB db f, ()), ()) := by
  rw [Si_IsFormula_eq, Si_IsDatabase_val db]
  simp only [Option.bind_some]
  unfold formB
  cases hb : dbB db with
  | false => rfl
  | true =>
    have hdl := dbB_len hb
    by_cases h1 : (f.length : Int) < 1
    · have : decide (1 ≤ (f.length : Int)) = false := by simp; omega
      simp [h1, this]
    · by_cases h2 : (f.length : Int) > 12
      · have : decide ((f.length : Int) ≤ 12) = false := by simp; omega
        simp [h1, h2, this]
      · have e1 : decide (1 ≤ (f.length : Int)) = true := by simp; omega
        have e2 : decide ((f.length : Int) ≤ 12) = true := by simp; omega
        rw [mk_ok f 8 (by omega) (by omega) (by omega)]
        have := Li_IsFormula_5_val db f (by omega) hf (by omega) (by omega) f.length 0 (List.replicate f.length 0) [] (by omega) (by simp) (by simp [Chn])
        simp only [List.drop_zero, Int.natCast_zero] at this
        simp only [h1, h2, decide_false, e1, e2, Bool.not_true, cond_false, Bool.true_and]
        exact this

/-! ### bounds from counts -/
theorem gA_of {a : Atm} (h : zA a ≤ 68719476736) : gA a := h
theorem gC_of {c : Cel} (h : zC c ≤ 68719476736) : gC c := ⟨Nat.le_trans (zL_len _ _) h, fun a ha => gA_of (Nat.le_trans (zL_mem _ ha) h)⟩
theorem gR_of {r : Rw} (h : zR r ≤ 68719476736) : gR r := by
  have hz : zR r = zB r.1 + zC r.2 := rfl
  exact ⟨by unfold zB at hz; omega, gC_of (by omega)⟩
theorem gL_of {r : Rel} (h : zQ r ≤ 68719476736) : gL r := by
  have hz : zQ r = zB r.1 + zL zR r.2.2 := rfl
  exact ⟨by unfold zB at hz; omega, Nat.le_trans (zL_len _ _) (Nat.le_trans (Nat.le_add_left _ _) (hz ▸ h)), fun a ha => gR_of (Nat.le_trans (zL_mem _ ha) (by omega))⟩
theorem gD_of {x : List Rel} (h : zL zQ x ≤ 68719476736) : x.length ≤ 68719476736 ∧ ∀ a ∈ x, gL a := ⟨Nat.le_trans (zL_len _ _) h, fun a ha => gL_of (Nat.le_trans (zL_mem _ ha) h)⟩
theorem gF_of {f : List Nod} (h : zL zN f ≤ 68719476736) : ∀ n ∈ f, zN n ≤ 68719476736 := fun n hn => Nat.le_trans (zL_mem _ hn) h

/-! ### formulas without negations -/
def posN (n : Nod) : Bool := !(n.1 == 2) && !(n.1 == 6)
theorem Ss_IsPositive_val (db : List Rel) (f : List Nod) (hd : zL zQ db ≤ 68719476736) (hf : zL zN f ≤ 68719476736) : Ss_IsPositive db f = some ((formB db f && f.all posN, ()), ()) := by
  have hl : f.length ≤ 68719476736 := Nat.le_trans (zL_len _ _) hf
  rw [Ss_IsPositive_eq]
  rw [all0 f posN (some ((false, ()), ())) (Ls_IsPositive_2 db f (f.length : Int)) (fun i => Ls_IsPositive_2 db f i) hl (fun i hi => by
    rw [Ls_IsPositive_2_eq, getI_ok hi, lt_yes hi, wrap_succ (by omega)]
    simp only [cond_true, Option.bind_some]
    unfold posN
    cases (f[i].1 == 2) <;> cases (f[i].1 == 6) <;> rfl) rfl]
  rw [Ls_IsPositive_2_eq, lt_no, Ss_IsFormula_val db f (gD_of hd) (gF_of hf)]
  cases f.all posN <;> cases formB db f <;> rfl
theorem Si_IsPositive_val (db : List Rel) (f : List Nod) (hf : zL zN f ≤ 68719476736) : Si_IsPositive db f = some ((formB db f && f.all posN, ()), ()) := by
  have hl : f.length ≤ 68719476736 := Nat.le_trans (zL_len _ _) hf
  rw [Si_IsPositive_eq, Si_IsFormula_val db f (gF_of hf)]
  have := all0 f posN (some ((false, ()), ())) (some ((true, ()), ())) (fun i => Li_IsPositive_4 f f (f.length : Int) i) hl (fun i hi => by
    rw [Li_IsPositive_4_eq, getI_ok hi, lt_yes hi, wrap_succ (by omega)]
    simp only [cond_true, Option.bind_some]
    unfold posN
    cases (f[i].1 == 2) <;> cases (f[i].1 == 6) <;> rfl) (by rw [Li_IsPositive_4_eq, lt_no]; rfl)
  simp only [Option.bind_some, this]
  cases f.all posN <;> cases formB db f <;> rfl
/-! ### views -/
def rowB2 (db : List Rel) (p : List Int) : Bool := ((p.length : Int) == 2) && (match getI p 0, getI p 1 with
  | some a, some b => decide (0 ≤ a) && (decide (a < (db.length : Int)) && (decide (0 ≤ b) && (match getI db a with
    | some r => decide (b < (r.2.2.length : Int))
    | none => false)))
  | _, _ => false)
def supB (db : List Rel) (s : Sup) : Bool := cellB s.1 && ((s.1.1 == 4) && (!decide ((s.2.length : Int) > 12) && s.2.all (rowB2 db)))
theorem two_of {p : List Int} (h : ((p.length : Int) == 2) = true) : ∃ a b, p = [a, b] := by
  simp only [beq_iff_eq] at h
  match p, h with
  | [a, b], _ => exact ⟨a, b, rfl⟩
  | [], h => simp at h
  | [_], h => simp at h
  | _ :: _ :: _ :: l, h => simp at h; omega
theorem getI2_0 (a b : Int) : getI [a, b] 0 = some a := rfl
theorem getI2_1 (a b : Int) : getI [a, b] 1 = some b := rfl
theorem Si_isRowOf_val (db : List Rel) (a b : Int) : Si_isRowOf db a b = some ((decide (0 ≤ a) && (decide (a < (db.length : Int)) && (decide (0 ≤ b) && (match getI db a with
    | some r => decide (b < (r.2.2.length : Int))
    | none => false))), ()), ()) := by
  rw [Si_isRowOf_eq]
  by_cases h0 : 0 ≤ a
  · by_cases h1 : a < (db.length : Int)
    · by_cases h2 : 0 ≤ b
      · have e : getI db a = some (db[a.toNat]'(by omega)) := getI_at db a.toNat (by omega) (by omega)
        have g0 : a ≥ 0 := h0
        have g2 : b ≥ 0 := h2
        simp only [e, g0, h1, g2, h0, h2, decide_true, cond_true, Option.bind_some, Bool.true_and]
      · have g2 : ¬ b ≥ 0 := h2
        have g0 : a ≥ 0 := h0
        simp only [g0, h1, g2, h0, h2, decide_true, decide_false, cond_true, cond_false, Bool.true_and, Bool.false_and]
    · have g0 : a ≥ 0 := h0
      simp only [g0, h1, h0, decide_true, decide_false, cond_true, cond_false, Bool.true_and, Bool.false_and]
  · have g0 : ¬ a ≥ 0 := h0
    simp only [g0, h0, decide_false, cond_false, Bool.false_and]
theorem Ls_IsView_8_val (db : List Rel) (v : Viw) (j : Int) (s : Sup) (hd : zL zQ db ≤ 68719476736) (hs : s.2.length ≤ 68719476736) : Ls_IsView_8 db v j s 0 = bif s.2.all (rowB2 db) then Ls_IsView_2 db v (IntKind.i64.wrap (j + 1)) else some ((false, ()), ()) := by
  have hdl : db.length ≤ 68719476736 := Nat.le_trans (zL_len _ _) hd
  rw [all0 s.2 (rowB2 db) (some ((false, ()), ())) (Ls_IsView_2 db v (IntKind.i64.wrap (j + 1))) (fun i => Ls_IsView_8 db v j s i) hs (fun i hi => by
    rw [Ls_IsView_8_eq, getI_ok hi, lt_yes hi, wrap_succ (by omega)]
    simp only [cond_true, Option.bind_some]
    generalize s.2[i] = p
    unfold rowB2
    cases h2 : ((p.length : Int) == 2) with
    | false => simp only [bne, h2]; rfl
    | true =>
      obtain ⟨a, b, rfl⟩ := two_of h2
      simp only [bne, h2, getI2_0, getI2_1, Option.bind_some, Ss_l1In_val, Bool.not_true, cond_false, Bool.true_and]
      rw [wrap_id (by omega) (by omega)]
      by_cases h0 : 0 ≤ a
      · by_cases h1 : a < (db.length : Int)
        · have e : getI db a = some (db[a.toNat]'(by omega)) := getI_at db a.toNat (by omega) (by omega)
          have g1 : a ≤ (db.length : Int) - 1 := by omega
          have hr := (gL_of (Nat.le_trans (zL_mem _ (List.getElem_mem (show a.toNat < db.length by omega))) hd)).2.1
          rw [e]
          simp only [h0, h1, g1, decide_true, Bool.and_self, Bool.not_true, cond_false, Option.bind_some, Bool.true_and]
          rw [wrap_id (by omega) (by omega)]
          have e3 : decide (b ≤ ((db[a.toNat]'(by omega)).2.2.length : Int) - 1) = decide (b < ((db[a.toNat]'(by omega)).2.2.length : Int)) := by
            rw [decide_eq_decide]; omega
          rw [e3]
          cases (decide (0 ≤ b) && decide (b < ((db[a.toNat]'(by omega)).2.2.length : Int))) <;> rfl
        · have g1 : ¬ a ≤ (db.length : Int) - 1 := by omega
          simp only [h0, h1, g1, decide_true, decide_false, Bool.and_false, Bool.not_false, cond_true, Bool.false_and, Bool.true_and, cond_false]
      · simp only [h0, decide_false, Bool.false_and, Bool.not_false, cond_true, cond_false]) (by rw [Ls_IsView_8_eq, lt_no]; rfl)]
def viewB (db : List Rel) (v : Viw) : Bool := (formB db v.1 && v.1.all posN) && (decide ((v.2.length : Int) ≤ 24) && v.2.all (supB db))
theorem zP_is (s : Sup) : zP s = zC s.1 + zL zI s.2 := rfl
theorem zV_is (v : Viw) : zV v = zL zN v.1 + zL zP v.2 := rfl
theorem Ss_IsView_val (db : List Rel) (v : Viw) (hd : zL zQ db ≤ 68719476736) (hv : zV v ≤ 68719476736) : Ss_IsView db v = some ((viewB db v, ()), ()) := by
  rw [zV_is] at hv
  have hl : v.2.length ≤ 68719476736 := Nat.le_trans (zL_len zP _) (by omega)
  rw [Ss_IsView_eq]
  rw [all0 v.2 (supB db) (some ((false, ()), ())) (Ls_IsView_2 db v (v.2.length : Int)) (fun i => Ls_IsView_2 db v i) hl (fun i hi => by
    have hz := Nat.le_trans (zL_mem zP (List.getElem_mem hi)) (show zL zP v.2 ≤ 68719476736 by omega)
    rw [zP_is] at hz
    rw [Ls_IsView_2_eq, getI_ok hi, lt_yes hi]
    simp only [cond_true, Option.bind_some]
    rw [Ss_IsCell_val _ (Nat.le_trans (zL_len zA _) (show zL zA v.2[i].1.2 ≤ 68719476736 from Nat.le_trans (Nat.le_add_right _ _) hz)), Ls_IsView_8_val db v i v.2[i] hd (Nat.le_trans (zL_len zI _) (by omega)), wrap_succ (by omega)]
    unfold supB
    simp only [bne, Option.bind_some]
    generalize cellB v.2[i].1 = b1
    generalize (v.2[i].1.1 == 4) = b2
    generalize (decide ((v.2[i].2.length : Int) > 12)) = b3
    generalize v.2[i].2.all (rowB2 db) = b4
    cases b1 <;> cases b2 <;> cases b3 <;> cases b4 <;> rfl) rfl]
  rw [Ls_IsView_2_eq, lt_no, Ss_IsPositive_val db v.1 hd (by omega)]
  unfold viewB
  simp only [Option.bind_some]
  generalize (formB db v.1 && v.1.all posN) = b1
  generalize (decide ((v.2.length : Int) ≤ 24)) = b2
  cases v.2.all (supB db) <;> cases b1 <;> cases b2 <;> rfl
theorem Li_IsView_9_val (db : List Rel) (v : Viw) (s : Sup) (l : List Sup) (m j : Int) (hs : s.2.length ≤ 68719476736) : Li_IsView_9 db v s l m j s.2 (s.2.length : Int) 0 = bif s.2.all (rowB2 db) then Li_IsView_4 db v l m (IntKind.i64.wrap (j + 1)) else some ((false, ()), ()) := by
  rw [all0 s.2 (rowB2 db) (some ((false, ()), ())) (Li_IsView_4 db v l m (IntKind.i64.wrap (j + 1))) (fun i => Li_IsView_9 db v s l m j s.2 (s.2.length : Int) i) hs (fun i hi => by
    rw [Li_IsView_9_eq, getI_ok hi, lt_yes hi, wrap_succ (by omega)]
    simp only [cond_true, Option.bind_some]
    generalize s.2[i] = p
    unfold rowB2
    cases h2 : ((p.length : Int) == 2) with
    | false => simp only [bne, h2]; rfl
    | true =>
      obtain ⟨a, b, rfl⟩ := two_of h2
      simp only [bne, h2, getI2_0, getI2_1, Option.bind_some, Si_isRowOf_val, Bool.not_true, cond_false, Bool.true_and]
      generalize (decide (0 ≤ a) && (decide (a < (db.length : Int)) && (decide (0 ≤ b) && (match getI db a with
        | some r => decide (b < (r.2.2.length : Int))
        | none => false)))) = c
      cases c <;> rfl) (by rw [Li_IsView_9_eq, lt_no]; rfl)]
theorem Si_IsView_val (db : List Rel) (v : Viw) (hv : zV v ≤ 68719476736) : Si_IsView db v = some ((viewB db v, ()), ()) := by
  rw [zV_is] at hv
  have hl : v.2.length ≤ 68719476736 := Nat.le_trans (zL_len zP _) (by omega)
  rw [Si_IsView_eq, Si_IsPositive_val db v.1 (by omega)]
  have := all0 v.2 (supB db) (some ((false, ()), ())) (some ((true, ()), ())) (fun i => Li_IsView_4 db v v.2 (v.2.length : Int) i) hl (fun i hi => by
    have hz := Nat.le_trans (zL_mem zP (List.getElem_mem hi)) (show zL zP v.2 ≤ 68719476736 by omega)
    rw [zP_is] at hz
    rw [Li_IsView_4_eq, getI_ok hi, lt_yes hi]
    simp only [cond_true, Option.bind_some]
    rw [Si_IsCell_val, Li_IsView_9_val db v v.2[i] v.2 _ i (Nat.le_trans (zL_len zI _) (by omega)), wrap_succ (by omega)]
    unfold supB
    simp only [bne, Option.bind_some]
    generalize cellB v.2[i].1 = b1
    generalize (v.2[i].1.1 == 4) = b2
    generalize (decide ((v.2[i].2.length : Int) > 12)) = b3
    generalize v.2[i].2.all (rowB2 db) = b4
    cases b1 <;> cases b2 <;> cases b3 <;> cases b4 <;> rfl) (by rw [Li_IsView_4_eq, lt_no]; rfl)
  simp only [Option.bind_some, this]
  unfold viewB
  have e : decide ((v.2.length : Int) ≤ 24) = !decide ((v.2.length : Int) > 24) := by
    by_cases h : (v.2.length : Int) > 24
    · have : ¬ (v.2.length : Int) ≤ 24 := by omega
      simp [h]
    · have : (v.2.length : Int) ≤ 24 := by omega
      simp [h, this]
  rw [e]
  generalize (formB db v.1 && v.1.all posN) = b1
  generalize (decide ((v.2.length : Int) > 24)) = b2
  cases v.2.all (supB db) <;> cases b1 <;> cases b2 <;> rfl

/-! ### loops that put things behind a list, or put each in its place -/
theorem flat_loop {α β R : Type} (x : List α) (h : α → List β) (hh : ∀ a, (h a).length ≤ 1) (E : List β → Option R) (f : List β → Int → Option R)
    (h1 : ∀ (i : Nat) (hi : i < x.length) (o : List β), o.length ≤ i → f o (i : Int) = f (o ++ h x[i]) ((i + 1 : Nat) : Int)) (h2 : ∀ o, f o (x.length : Int) = E o) :
    ∀ (n i : Nat) (o : List β), n + i = x.length → o.length ≤ i → f o (i : Int) = E (o ++ (x.drop i).flatMap h)
  | 0, i, o, hn, _ => by
    obtain rfl : i = x.length := by omega
    rw [h2, List.drop_eq_nil_of_le (by omega)]; simp
  | n + 1, i, o, hn, ho => by
    have hi : i < x.length := by omega
    have := hh x[i]
    rw [h1 i hi o ho, flat_loop x h hh E f h1 h2 n (i + 1) _ (by omega) (by simp; omega), List.drop_eq_getElem_cons hi, List.flatMap_cons, List.append_assoc]
theorem flat0 {α β R : Type} (x : List α) (h : α → List β) (hh : ∀ a, (h a).length ≤ 1) (E : List β → Option R) (f : List β → Int → Option R)
    (h1 : ∀ (i : Nat) (hi : i < x.length) (o : List β), o.length ≤ i → f o (i : Int) = f (o ++ h x[i]) ((i + 1 : Nat) : Int)) (h2 : ∀ o, f o (x.length : Int) = E o) : f [] 0 = E (x.flatMap h) := by
  have := flat_loop x h hh E f h1 h2 x.length 0 [] (by omega) (by simp)
  rw [Int.natCast_zero] at this
  rw [this]; simp
theorem flat_one {α β : Type} (g : α → β) (x : List α) : x.flatMap (fun a => [g a]) = x.map g := by
  induction x with
  | nil => rfl
  | cons a l ih => rw [List.flatMap_cons, ih]; rfl
theorem push0 {α β R : Type} (x : List α) (g : α → β) (E : List β → Option R) (f : List β → Int → Option R)
    (h1 : ∀ (i : Nat) (hi : i < x.length) (o : List β), o.length ≤ i → f o (i : Int) = f (o ++ [g x[i]]) ((i + 1 : Nat) : Int)) (h2 : ∀ o, f o (x.length : Int) = E o) : f [] 0 = E (x.map g) := by
  have := flat0 x (fun a => [g a]) (fun _ => by simp) E f h1 h2
  rw [this, flat_one]
theorem set_loop {α R : Type} (x : List α) (g : α → α) (E : List α → Option R) (f : List α → Int → Option R)
    (h1 : ∀ (i : Nat) (hi : i < x.length) (v : List α), v.length = x.length → getI v (i : Int) = some x[i] → f v (i : Int) = f (v.set i (g x[i])) ((i + 1 : Nat) : Int)) (h2 : ∀ v, v.length = x.length → f v (x.length : Int) = E v) :
    ∀ (n i : Nat), n + i = x.length → f ((x.take i).map g ++ x.drop i) (i : Int) = E (x.map g)
  | 0, i, hn => by
    obtain rfl : i = x.length := by omega
    rw [List.take_of_length_le (by omega), List.drop_eq_nil_of_le (by omega), List.append_nil, h2 _ (by simp)]
  | n + 1, i, hn => by
    have hi : i < x.length := by omega
    have hlen : ((x.take i).map g ++ x.drop i).length = x.length := by simp; omega
    have hlt : ((x.take i).map g).length = i := by simp; omega
    have hget : getI ((x.take i).map g ++ x.drop i) (i : Int) = some x[i] := by
      unfold getI
      rw [if_pos (by omega), Int.toNat_natCast, List.getElem?_append_right (by omega), hlt, Nat.sub_self, List.getElem?_drop, Nat.add_zero, List.getElem?_eq_getElem hi]
    rw [h1 i hi _ hlen hget, ← set_loop x g E f h1 h2 n (i + 1) (by omega)]
    congr 1
    have e : x.take (i + 1) = x.take i ++ [x[i]] := by rw [List.take_add_one, List.getElem?_eq_getElem hi]; rfl
    rw [List.set_append_right _ _ (by omega), hlt, Nat.sub_self, List.drop_eq_getElem_cons hi, List.set_cons_zero, e, List.map_append, List.append_assoc]
    rfl
theorem set0 {α R : Type} (x : List α) (g : α → α) (E : List α → Option R) (f : List α → Int → Option R)
    (h1 : ∀ (i : Nat) (hi : i < x.length) (v : List α), v.length = x.length → getI v (i : Int) = some x[i] → f v (i : Int) = f (v.set i (g x[i])) ((i + 1 : Nat) : Int)) (h2 : ∀ v, v.length = x.length → f v (x.length : Int) = E v) : f x 0 = E (x.map g) := by
  have := set_loop x g E f h1 h2 x.length 0 (by omega)
  simpa using this

/-! ### copies -/
theorem sz8 {n : Nat} (h : n ≤ 68719476736) : decide ((0 + n) * 8 ≤ 140737488355328) = true := by simp; omega
theorem szc {n c : Nat} (h : n ≤ 68719476736) (hc : c ≤ 1000) : decide ((n + 1) * c ≤ 140737488355328) = true := by
  have := Nat.mul_le_mul (show n + 1 ≤ 68719476737 by omega) hc
  simp; omega
theorem Ss_l3Atom_val (a : Atm) (h : zA a ≤ 68719476736) : Ss_l3Atom a = some ((a, ()), ()) := by
  have h' : a.1.length ≤ 68719476736 := h
  rw [Ss_l3Atom_eq, sz8 h']; rfl
theorem Si_copyNumbers_val (a : List Int) (h : a.length ≤ 68719476736) : Si_copyNumbers a = some ((a, ()), ()) := by
  rw [Si_copyNumbers_eq, sz8 h]; rfl
theorem Si_copyAtom_val (a : Atm) (h : zA a ≤ 68719476736) : Si_copyAtom a = some ((a, ()), ()) := by
  rw [Si_copyAtom_eq, Si_copyNumbers_val _ h]; rfl
theorem map_id_eq {α : Type} (x : List α) : x.map (fun a => a) = x := by induction x with
  | nil => rfl
  | cons a l ih => simp
theorem Ss_l3Copy_val (c : Cel) (h : zC c ≤ 68719476736) : Ss_l3Copy c = some ((c, ()), ()) := by
  have hl : c.2.length ≤ 68719476736 := Nat.le_trans (zL_len _ _) h
  rw [Ss_l3Copy_eq]
  rw [push0 c.2 (fun a => a) (fun o => some (((c.1, o), ()), ())) (fun o i => Ls_l3Copy_3 c (0, []) (c.1, o) i) (fun i hi o ho => by
    rw [Ls_l3Copy_3_eq, lt_yes hi, getI_ok hi, wrap_succ (by omega)]
    simp only [cond_true, Option.bind_some]
    rw [Ss_l3Atom_val _ (Nat.le_trans (zL_mem zA (List.getElem_mem hi)) h)]
    simp only [Option.bind_some]
    rw [szc (by omega) (by omega), cond_true]) (fun o => by rw [Ls_l3Copy_3_eq, lt_no]; rfl), map_id_eq]
theorem mk0_ok {α : Type} (x : List α) (c : Int) (hl : x.length ≤ 68719476736) (h0 : 0 ≤ c) (hc : c ≤ 1000) : (decide ((0 : Nat) ≤ 0) && decide ((0 : Int) ≤ (x.length : Int)) && decide ((x.length : Int) * c ≤ 140737488355328) && decide ((x.length : Int) ≤ 9223372036854775807)) = true := by
  have h1 : (x.length : Int) * c ≤ (x.length : Int) * 1000 := Int.mul_le_mul_of_nonneg_left hc (by omega)
  have h2 : (x.length : Int) * c ≤ 140737488355328 := by omega
  simp only [h2, decide_true, Bool.and_true, Bool.and_eq_true, decide_eq_true_eq]
  omega
theorem Si_copyCell_val (c : Cel) (h : zC c ≤ 68719476736) : Si_copyCell c = some ((c, ()), ()) := by
  have hl : c.2.length ≤ 68719476736 := Nat.le_trans (zL_len _ _) h
  rw [Si_copyCell_eq, mk0_ok c.2 40 hl (by omega) (by omega), cond_true]
  have e : List.replicate (Int.toNat 0) (([], 0, false) : Atm) = [] := rfl
  rw [e]
  rw [push0 c.2 (fun a => a) (fun o => some (((c.1, o), ()), ())) (fun o i => Li_copyCell_3 c (0, []) (c.1, o) c.2 (c.2.length : Int) i) (fun i hi o ho => by
    rw [Li_copyCell_3_eq, lt_yes hi, getI_ok hi, wrap_succ (by omega)]
    simp only [cond_true, Option.bind_some]
    rw [Si_copyAtom_val _ (Nat.le_trans (zL_mem zA (List.getElem_mem hi)) h)]
    simp only [Option.bind_some]
    rw [szc (by omega) (by omega), cond_true]) (fun o => by rw [Li_copyCell_3_eq, lt_no]; rfl), map_id_eq]
theorem Ss_l10Pairs_val (l : List (List Int)) (h : zL zI l ≤ 68719476736) : Ss_l10Pairs l = some ((l, ()), ()) := by
  have hl : l.length ≤ 68719476736 := Nat.le_trans (zL_len _ _) h
  rw [Ss_l10Pairs_eq]
  rw [push0 l (fun a => a) (fun o => some ((o, ()), ())) (fun o i => Ls_l10Pairs_3 l o i) (fun i hi o ho => by
    rw [Ls_l10Pairs_3_eq, lt_yes hi, getI_ok hi, wrap_succ (by omega)]
    simp only [cond_true, Option.bind_some]
    have hz : l[i].length ≤ 68719476736 := Nat.le_trans (zL_mem zI (List.getElem_mem hi)) h
    rw [sz8 hz, cond_true, szc (by omega) (by omega), cond_true]) (fun o => by rw [Ls_l10Pairs_3_eq, lt_no]; rfl), map_id_eq]
theorem Si_copyPairs_val (l : List (List Int)) (h : zL zI l ≤ 68719476736) : Si_copyPairs [l] = some ((l, ()), ()) := by
  have hl : l.length ≤ 68719476736 := Nat.le_trans (zL_len _ _) h
  rw [Si_copyPairs_eq, Li_copyPairs_3_eq]
  have e1 : decide ((0 : Int) < (([l] : List (List (List Int))).length : Int)) = true := by simp
  have e2 : getI [l] 0 = some l := rfl
  rw [e1, e2, cond_true, Option.bind_some]
  rw [push0 l (fun a => a) (fun o => some ((o, ()), ())) (fun o i => Li_copyPairs_6 [l] o l [l] (([l] : List (List (List Int))).length : Int) 0 l (l.length : Int) i) (fun i hi o ho => by
    rw [Li_copyPairs_6_eq, lt_yes hi, getI_ok hi, wrap_succ (by omega)]
    simp only [cond_true, Option.bind_some]
    rw [Si_copyNumbers_val _ (Nat.le_trans (zL_mem zI (List.getElem_mem hi)) h)]
    simp only [Option.bind_some]
    rw [szc (by omega) (by omega), cond_true]) (fun o => by
      rw [Li_copyPairs_6_eq, lt_no, cond_false, Li_copyPairs_3_eq]
      rfl), map_id_eq]
theorem Si_copySupport_val (s : Sup) (h : zP s ≤ 68719476736) : Si_copySupport s = some ((s, ()), ()) := by
  have hz : zP s = zC s.1 + zL zI s.2 := rfl
  rw [Si_copySupport_eq, Si_copyCell_val s.1 (by omega)]
  simp only [Option.bind_some]
  rw [Si_copyPairs_val s.2 (by omega)]; rfl
theorem Si_copyNode_val (n : Nod) (h : zN n ≤ 68719476736) : Si_copyNode n = some ((n, ()), ()) := by
  have hz : zN n = zA n.2.1 + zB n.2.2.1 + zB n.2.2.2.1 + zI n.2.2.2.2.1 := rfl
  rw [Si_copyNode_eq, Si_copyAtom_val n.2.1 (by omega)]
  simp only [Option.bind_some]
  rw [Si_copyNumbers_val n.2.2.2.2.1 (by unfold zI at hz; omega)]; rfl
theorem Si_copyNodes_val (f : List Nod) (h : zL zN f ≤ 68719476736) : Si_copyNodes f = some ((f, ()), ()) := by
  have hl : f.length ≤ 68719476736 := Nat.le_trans (zL_len _ _) h
  rw [Si_copyNodes_eq, mk0_ok f 128 hl (by omega) (by omega), cond_true]
  have e : List.replicate (Int.toNat 0) ((0, ([], 0, false), ByteArray.empty, ByteArray.empty, [], 0, 0, 0) : Nod) = [] := rfl
  rw [e]
  rw [push0 f (fun a => a) (fun o => some ((o, ()), ())) (fun o i => Li_copyNodes_3 f o f (f.length : Int) i) (fun i hi o ho => by
    rw [Li_copyNodes_3_eq, lt_yes hi, getI_ok hi, wrap_succ (by omega)]
    simp only [cond_true, Option.bind_some]
    rw [Si_copyNode_val _ (Nat.le_trans (zL_mem zN (List.getElem_mem hi)) h)]
    simp only [Option.bind_some]
    rw [szc (by omega) (by omega), cond_true]) (fun o => by rw [Li_copyNodes_3_eq, lt_no]; rfl), map_id_eq]
theorem Ss_l5Append_val (f : List Nod) (h : zL zN f ≤ 68719476736) (hw : ∀ n ∈ f, WfD pNod n) : Ss_l5Append [] f = some ((f, ()), ()) := by
  have hl : f.length ≤ 68719476736 := Nat.le_trans (zL_len _ _) h
  rw [Ss_l5Append_eq]
  have e0 : ((([] : List Nod).length : Nat) : Int) = 0 := rfl
  rw [e0]
  rw [push0 f (fun a => a) (fun o => some ((o, ()), ())) (fun o i => Ls_l5Append_3 o f 0 i) (fun i hi o ho => by
    have hz := Nat.le_trans (zL_mem zN (List.getElem_mem hi)) h
    have hz1 : zN f[i] = zA f[i].2.1 + zB f[i].2.2.1 + zB f[i].2.2.2.1 + zI f[i].2.2.2.2.1 := rfl
    have hn := hw _ (List.getElem_mem hi)
    have m0 : IntKind.i64.min = -9223372036854775808 := by decide
    have m1 : IntKind.i64.max = 9223372036854775807 := by decide
    have wa : IntKind.i64.wrap (f[i].2.2.2.2.2.2.1 + 0) = f[i].2.2.2.2.2.2.1 := by
      have this : IntKind.i64.min ≤ f[i].2.2.2.2.2.2.1 ∧ f[i].2.2.2.2.2.2.1 ≤ IntKind.i64.max := hn.2.2.2.2.2.2.1
      rw [m0, m1] at this
      rw [Int.add_zero]; exact wrap_id this.1 this.2
    have wb : IntKind.i64.wrap (f[i].2.2.2.2.2.2.2 + 0) = f[i].2.2.2.2.2.2.2 := by
      have this : IntKind.i64.min ≤ f[i].2.2.2.2.2.2.2 ∧ f[i].2.2.2.2.2.2.2 ≤ IntKind.i64.max := hn.2.2.2.2.2.2.2
      rw [m0, m1] at this
      rw [Int.add_zero]; exact wrap_id this.1 this.2
    rw [Ls_l5Append_3_eq, lt_yes hi, getI_ok hi, wrap_succ (by omega)]
    simp only [cond_true, Option.bind_some]
    rw [Ss_l3Atom_val _ (by omega)]
    simp only [Option.bind_some]
    rw [sz8 (by unfold zI at hz1; omega), cond_true, wa, wb, szc (by omega) (by omega)]
    simp only [cond_true]
    cases decide (f[i].1 > 1) <;> cases f[i].1 == 3 <;> cases f[i].1 == 4 <;> rfl) (fun o => by rw [Ls_l5Append_3_eq, lt_no]; rfl), map_id_eq]

/-! ### rows behind one that is gone -/
def samP (p q : List Int) : Bool := match p, q with
  | [a, b], [c, d] => (a == c) && (b == d)
  | _, _ => false
def decP (rel row : Int) (p : List Int) : List Int := match p with
  | [a, b] => bif a == rel then (bif decide (b > row) then [a, b - 1] else [a, b]) else [a, b]
  | p => p
def goodR (l : List (List Int)) : Prop := l.length ≤ 68719476736 ∧ ∀ p ∈ l, ∃ a b, p = [a, b] ∧ 0 ≤ b ∧ b ≤ 68719476736
theorem Ss_l10Uses_val (s : Sup) (p0 p1 : Int) (hs : goodR s.2) : Ss_l10Uses s p0 p1 = some ((s.2.any (fun q => samP q [p0, p1]), ()), ()) := by
  rw [Ss_l10Uses_eq]
  have := all0 s.2 (fun q => !samP q [p0, p1]) (some ((true, ()), ())) (some ((false, ()), ())) (fun i => Ls_l10Uses_2 p0 p1 s i) hs.1 (fun i hi => ?_) (by rw [Ls_l10Uses_2_eq, lt_no]; rfl)
  · rw [this]
    have e : s.2.all (fun q => !samP q [p0, p1]) = !s.2.any (fun q => samP q [p0, p1]) := by rw [List.not_any_eq_all_not]
    rw [e]
    cases s.2.any _ <;> rfl
  · obtain ⟨q0, q1, hq, _⟩ := hs.2 _ (List.getElem_mem hi)
    rw [Ls_l10Uses_2_eq, lt_yes hi, wrap_succ (by have := hs.1; omega)]
    simp only [cond_true, getI_ok hi, Option.bind_some, hq, getI2_0, getI2_1, samP]
    cases q0 == p0 <;> cases q1 == p1 <;> rfl
theorem Si_Support_hasPair_val (s : Sup) (p0 p1 : Int) (hs : goodR s.2) : Si_Support_hasPair s p0 p1 = some ((s.2.any (fun q => samP q [p0, p1]), ()), ()) := by
  rw [Si_Support_hasPair_eq]
  have := all0 s.2 (fun q => !samP q [p0, p1]) (some ((true, ()), ())) (some ((false, ()), ())) (fun i => Li_Support_hasPair_2 p0 p1 s s.2 (s.2.length : Int) i) hs.1 (fun i hi => ?_) (by rw [Li_Support_hasPair_2_eq, lt_no]; rfl)
  · rw [this]
    have e : s.2.all (fun q => !samP q [p0, p1]) = !s.2.any (fun q => samP q [p0, p1]) := by rw [List.not_any_eq_all_not]
    rw [e]
    cases s.2.any _ <;> rfl
  · obtain ⟨q0, q1, hq, _⟩ := hs.2 _ (List.getElem_mem hi)
    rw [Li_Support_hasPair_2_eq, lt_yes hi, wrap_succ (by have := hs.1; omega)]
    simp only [cond_true, getI_ok hi, Option.bind_some, hq, getI2_0, getI2_1, samP]
    cases q0 == p0 <;> cases q1 == p1 <;> rfl
theorem set_same {α : Type} {v : List α} {i : Nat} {y : α} (h : getI v (i : Int) = some y) : v.set i y = v := by
  unfold getI at h
  rw [if_pos (by omega), Int.toNat_natCast] at h
  apply List.ext_getElem?
  intro j
  rw [List.getElem?_set]
  split
  · rename_i hj
    subst hj
    split
    · exact h.symm
    · rename_i hl
      rw [List.getElem?_eq_none (by omega)]
  · rfl
theorem decW {b row : Int} (h0 : 0 ≤ b) (h1 : b ≤ 68719476736) : IntKind.i64.wrap (b - 1) = b - 1 := wrap_id (by omega) (by omega)
theorem set2 (a b c : Int) : List.set [a, b] (Int.toNat 1) c = [a, c] := rfl
theorem Ls_ViewAfterRemove_10_val (rel row : Int) (v x8 x10 : Viw) (j : Int) (c : Cel) (l : List (List Int)) (hl : goodR l) (ho : x10.2.length ≤ 68719476736) :
    Ls_ViewAfterRemove_10 rel row v x8 x10 j (c, l) 0 = Ls_ViewAfterRemove_5 rel row v x8 (x10.1, x10.2 ++ [(c, l.map (decP rel row))]) (IntKind.i64.wrap (j + 1)) := by
  rw [set0 l (decP rel row) (fun l' => Ls_ViewAfterRemove_5 rel row v x8 (x10.1, x10.2 ++ [(c, l')]) (IntKind.i64.wrap (j + 1))) (fun l' i => Ls_ViewAfterRemove_10 rel row v x8 x10 j (c, l') i) (fun i hi w hw hg => by
    obtain ⟨a, b, hp, b0, b1⟩ := hl.2 _ (List.getElem_mem hi)
    rw [hp] at hg ⊢
    have hi' : i < w.length := by omega
    rw [Ls_ViewAfterRemove_10_eq, wrap_succ (by have := hl.1; omega)]
    dsimp only
    rw [lt_yes hi', cond_true, hg]
    simp only [Option.bind_some, getI2_0, getI2_1, decW (row := row) b0 b1, set2, decP, Int.toNat_natCast]
    cases h1 : a == rel
    · simp only [cond_false]; rw [set_same hg]
    · simp only [cond_true]
      cases h2 : decide (b > row)
      · simp only [cond_false]; rw [set_same hg]
      · rfl) (fun w hw => by
    rw [Ls_ViewAfterRemove_10_eq]
    dsimp only
    rw [hw, lt_no, cond_false, szc ho (by omega), cond_true])]
theorem Li_ViewAfterRemove_10_val (rel row : Int) (v x8 x10 : Viw) (y34 : List Sup) (y35 j : Int) (c : Cel) (l : List (List Int)) (hl : goodR l) (ho : x10.2.length ≤ 68719476736) :
    Li_ViewAfterRemove_10 rel row v x8 x10 (c, l) y34 y35 j (l.length : Int) 0 = Li_ViewAfterRemove_5 rel row v x8 (x10.1, x10.2 ++ [(c, l.map (decP rel row))]) y34 y35 (IntKind.i64.wrap (j + 1)) := by
  rw [set0 l (decP rel row) (fun l' => Li_ViewAfterRemove_5 rel row v x8 (x10.1, x10.2 ++ [(c, l')]) y34 y35 (IntKind.i64.wrap (j + 1))) (fun l' i => Li_ViewAfterRemove_10 rel row v x8 x10 (c, l') y34 y35 j (l.length : Int) i) (fun i hi w hw hg => by
    obtain ⟨a, b, hp, b0, b1⟩ := hl.2 _ (List.getElem_mem hi)
    rw [hp] at hg ⊢
    rw [Li_ViewAfterRemove_10_eq, wrap_succ (by have := hl.1; omega)]
    dsimp only
    rw [lt_yes hi, cond_true, hg]
    simp only [Option.bind_some, getI2_0, getI2_1, decW (row := row) b0 b1, set2, decP, Int.toNat_natCast]
    cases h1 : a == rel
    · simp only [cond_false]; rw [set_same hg]
    · simp only [cond_true]
      cases h2 : decide (b > row)
      · simp only [cond_false]; rw [set_same hg]
      · rfl) (fun w hw => by
    rw [Li_ViewAfterRemove_10_eq]
    dsimp only
    rw [lt_no, cond_false, szc ho (by omega), cond_true])]

def keepS (rel row : Int) (s : Sup) : List Sup := bif s.2.any (fun q => samP q [rel, row]) then [] else [(s.1, s.2.map (decP rel row))]
theorem keepS_le (rel row : Int) (s : Sup) : (keepS rel row s).length ≤ 1 := by
  unfold keepS
  cases s.2.any _ <;> simp
theorem zI_decP (rel row : Int) (p : List Int) : zI (decP rel row p) = zI p := by
  unfold decP zI
  split
  · rename_i a b
    cases a == rel
    · rfl
    · cases decide (b > row) <;> rfl
  · rfl
theorem zL_decP (rel row : Int) (l : List (List Int)) : zL zI (l.map (decP rel row)) = zL zI l := by
  unfold zL
  rw [List.length_map, List.map_map]
  congr 2
  apply List.map_congr_left
  intro p _
  exact zI_decP rel row p
theorem zL_cons {α : Type} (f : α → Nat) (a : α) (l : List α) : zL f (a :: l) = 1 + f a + zL f l := by
  unfold zL; simp; omega
theorem zL_keep (rel row : Int) : ∀ l : List Sup, zL zP (l.flatMap (keepS rel row)) ≤ zL zP l
  | [] => Nat.le_refl _
  | s :: l => by
    have ih := zL_keep rel row l
    rw [List.flatMap_cons, zL_cons]
    unfold keepS
    cases s.2.any _
    · simp only [cond_false, List.singleton_append]
      rw [zL_cons]
      have e : zP (s.1, s.2.map (decP rel row)) = zP s := by
        show zC s.1 + zL zI (s.2.map (decP rel row)) = zC s.1 + zL zI s.2
        rw [zL_decP]
      rw [e]; unfold keepS at ih; omega
    · simp only [cond_true, List.nil_append]
      unfold keepS at ih; omega

theorem good_of {db : List Rel} {s : Sup} (zd : zL zQ db ≤ 68719476736) (hz : zP s ≤ 68719476736) (h : supB db s = true) : goodR s.2 := by
  unfold supB at h
  simp only [Bool.and_eq_true, List.all_eq_true] at h
  have hzp : zP s = zC s.1 + zL zI s.2 := rfl
  refine ⟨Nat.le_trans (zL_len zI s.2) (by omega), fun p hp => ?_⟩
  have h2 := h.2.2.2 p hp
  unfold rowB2 at h2
  simp only [Bool.and_eq_true] at h2
  obtain ⟨a, b, rfl⟩ := two_of h2.1
  have h3 := h2.2
  rw [getI2_0, getI2_1] at h3
  simp only [Bool.and_eq_true, decide_eq_true_eq] at h3
  refine ⟨a, b, rfl, h3.2.2.1, ?_⟩
  have h4 := h3.2.2.2
  split at h4
  · rename_i r hr
    have hm : r ∈ db := by
      unfold getI at hr
      split at hr
      · exact List.mem_of_getElem? hr
      · cases hr
    have hq := zL_mem zQ hm
    have hq2 : zQ r = zB r.1 + zL zR r.2.2 := rfl
    have hq3 := zL_len zR r.2.2
    simp only [decide_eq_true_eq] at h4
    omega
  · cases h4

theorem after_same (db : List Rel) (v : Viw) (rel row : Int) (zd : zL zQ db ≤ 68719476736) (zv : zV v ≤ 68719476736) (hv : WfD pViw v) :
    ∃ r ok, Ss_ViewAfterRemove db v rel row = some ((r, ok, ()), ()) ∧ Si_ViewAfterRemove db v rel row = some ((r, ok, ()), ()) ∧ zV r ≤ 68719476736 := by
  rw [Ss_ViewAfterRemove_eq, Si_ViewAfterRemove_eq, Ss_IsView_val db v zd zv, Si_IsView_val db v zv]
  simp only [Option.bind_some]
  have hnil : zV (([], []) : Viw) ≤ 68719476736 := by
    show zL zN [] + zL zP [] ≤ _
    unfold zL; simp
  cases hb : viewB db v
  · exact ⟨([], []), false, rfl, rfl, hnil⟩
  · simp only [Bool.not_true, cond_false, Si_isRowOf_val, Option.bind_some]
    have hvz : zV v = zL zN v.1 + zL zP v.2 := rfl
    have hdl : db.length ≤ 68719476736 := Nat.le_trans (zL_len zQ _) zd
    unfold viewB at hb
    simp only [Bool.and_eq_true, decide_eq_true_eq, List.all_eq_true] at hb
    obtain ⟨_, h24, hsup⟩ := hb
    rw [wrap_id (show -9223372036854775808 ≤ (db.length : Int) - 1 by omega) (by omega), Ss_l1In_eq]
    by_cases g0 : 0 ≤ rel
    · by_cases g1 : rel < (db.length : Int)
      · have e : getI db rel = some (db[rel.toNat]'(by omega)) := getI_at db rel.toNat (by omega) (by omega)
        have hq := zL_mem zQ (List.getElem_mem (show rel.toNat < db.length by omega))
        have hq2 : zQ (db[rel.toNat]'(by omega)) = zB (db[rel.toNat]'(by omega)).1 + zL zR (db[rel.toNat]'(by omega)).2.2 := rfl
        have hq3 := zL_len zR (db[rel.toNat]'(by omega)).2.2
        have g0' : rel ≥ 0 := g0
        have g1' : rel ≤ (db.length : Int) - 1 := by omega
        simp only [e, g0, g0', g1, g1', decide_true, cond_true, Bool.true_and, Option.bind_some, Bool.not_true, cond_false]
        rw [wrap_id (show -9223372036854775808 ≤ ((db[rel.toNat]'(by omega)).2.2.length : Int) - 1 by omega) (by omega), Ss_l1In_eq]
        by_cases g2 : 0 ≤ row
        · have g2' : row ≥ 0 := g2
          by_cases g3 : row < ((db[rel.toNat]'(by omega)).2.2.length : Int)
          · have g3' : row ≤ ((db[rel.toNat]'(by omega)).2.2.length : Int) - 1 := by omega
            simp only [g2, g2', g3, g3', decide_true, cond_true, Bool.true_and, Option.bind_some, Bool.not_true, cond_false]
            rw [Ss_l5Append_val v.1 (by omega) hv.1.2, Si_copyNodes_val v.1 (by omega)]
            simp only [Option.bind_some]
            refine ⟨(v.1, v.2.flatMap (keepS rel row)), true, ?_, ?_, ?_⟩
            · rw [flat0 v.2 (keepS rel row) (keepS_le rel row) (fun o => some (((v.1, o), true, ()), ())) (fun o i => Ls_ViewAfterRemove_5 rel row v ([], []) (v.1, o) i) (fun i hi o ho => by
                have hz : zP v.2[i] ≤ 68719476736 := Nat.le_trans (zL_mem zP (List.getElem_mem hi)) (by omega)
                have hzp : zP v.2[i] = zC v.2[i].1 + zL zI v.2[i].2 := rfl
                have hgood := good_of zd hz (hsup _ (List.getElem_mem hi))
                rw [Ls_ViewAfterRemove_5_eq, lt_yes hi, getI_ok hi]
                simp only [cond_true, Option.bind_some]
                rw [Ss_l10Uses_val _ _ _ hgood]
                simp only [Option.bind_some]
                unfold keepS
                cases v.2[i].2.any _
                · simp only [cond_false]
                  rw [Ss_l3Copy_val _ (by omega)]
                  simp only [Option.bind_some]
                  rw [Ss_l10Pairs_val _ (by omega)]
                  simp only [Option.bind_some]
                  rw [Ls_ViewAfterRemove_10_val _ _ _ _ _ _ _ _ hgood (by have := zL_len zP v.2; dsimp only; omega), wrap_succ (by have := zL_len zP v.2; omega)]
                · simp only [cond_true, List.append_nil]
                  rw [wrap_succ (by have := zL_len zP v.2; omega)]) (fun o => by rw [Ls_ViewAfterRemove_5_eq, lt_no]; rfl)]
            · rw [flat0 v.2 (keepS rel row) (keepS_le rel row) (fun o => some (((v.1, o), true, ()), ())) (fun o i => Li_ViewAfterRemove_5 rel row v ([], []) (v.1, o) v.2 (v.2.length : Int) i) (fun i hi o ho => by
                have hz : zP v.2[i] ≤ 68719476736 := Nat.le_trans (zL_mem zP (List.getElem_mem hi)) (by omega)
                have hgood := good_of zd hz (hsup _ (List.getElem_mem hi))
                rw [Li_ViewAfterRemove_5_eq, lt_yes hi, getI_ok hi]
                simp only [cond_true, Option.bind_some]
                rw [Si_Support_hasPair_val _ _ _ hgood]
                simp only [Option.bind_some]
                unfold keepS
                cases v.2[i].2.any _
                · simp only [cond_false]
                  rw [Si_copySupport_val _ hz]
                  simp only [Option.bind_some]
                  have := Li_ViewAfterRemove_10_val rel row v ([], []) (v.1, o) v.2 (v.2.length : Int) i v.2[i].1 v.2[i].2 hgood (by have := zL_len zP v.2; dsimp only; omega)
                  rw [this, wrap_succ (by have := zL_len zP v.2; omega)]
                · simp only [cond_true, List.append_nil]
                  rw [wrap_succ (by have := zL_len zP v.2; omega)]) (fun o => by rw [Li_ViewAfterRemove_5_eq, lt_no]; rfl)]
            · show zL zN v.1 + zL zP (v.2.flatMap (keepS rel row)) ≤ _
              have := zL_keep rel row v.2
              omega
          · have g3' : ¬ row ≤ ((db[rel.toNat]'(by omega)).2.2.length : Int) - 1 := by omega
            simp only [g2, g2', g3, g3', decide_true, decide_false, cond_true, Bool.true_and, Option.bind_some, Bool.not_false]
            exact ⟨([], []), false, rfl, rfl, hnil⟩
        · have g2' : ¬ row ≥ 0 := g2
          simp only [g2, g2', decide_false, cond_false, Bool.false_and, Option.bind_some, Bool.not_false, cond_true]
          exact ⟨([], []), false, rfl, rfl, hnil⟩
      · have g0' : rel ≥ 0 := g0
        have g1' : ¬ rel ≤ (db.length : Int) - 1 := by omega
        simp only [g0, g0', g1, g1', decide_true, decide_false, cond_true, Bool.true_and, Bool.false_and, Option.bind_some, Bool.not_false]
        exact ⟨([], []), false, rfl, rfl, hnil⟩
    · have g0' : ¬ rel ≥ 0 := g0
      simp only [g0, g0', decide_false, cond_false, Bool.false_and, Option.bind_some, Bool.not_false, cond_true]
      exact ⟨([], []), false, rfl, rfl, hnil⟩

theorem law_ViewAfterRemove (x : List Rel) (v : Viw) (rel row : Int) (hx : WfD (.slice 0 pRel) x) (hv : WfD pViw v) : Sw_FnExactViewAfterRemove x v rel row = some ((true, ()), ()) := by
  rw [Sw_FnExactViewAfterRemove_eq, Sw_szRelationS_val x 1048576 hx (by omega) (by omega)]
  simp only [Option.bind_some]
  rcases subN_cases 1048576 (zL zQ x) with ⟨e, _⟩ | ⟨k1, e, a1, d1⟩
  · rw [e]; rfl
  have c1 : decide (k1 < 0) = false := by simp; omega
  rw [e]; simp only [c1, cond_false]
  rw [Sw_szView_val v k1 hv (by omega) (by omega)]
  simp only [Option.bind_some]
  rcases subN_cases k1 (zV v) with ⟨e, _⟩ | ⟨k2, e, a2, d2⟩
  · rw [e]; rfl
  have c2 : decide (k2 < 0) = false := by simp; omega
  rw [e]; simp only [c2, cond_false]
  have zx : zL zQ x ≤ 68719476736 := by omega
  have zv : zV v ≤ 68719476736 := by omega
  obtain ⟨r, ok, w1, w2, w3⟩ := after_same x v rel row zx zv hv
  have q1 := mL_md mdQ x 1
  have q2 := tdV v (mL mQ x 1).2
  have q3 := tdV r 1
  have n1 : decide ((tV v (mL mQ x 1).2).2 < 0) = false := decide_eq_false (by omega)
  have n2 : decide ((tV r 1).2 < 0) = false := decide_eq_false (by omega)
  have m1 := Sw_markRelationS_val x 1 (by omega) (by omega) zx
  have m2 := Sw_markView_val v (mL mQ x 1).2 (by omega) (by omega) zv
  have m3 := Sw_markView_val r 1 (by omega) (by omega) w3
  have m4 := Sw_heldView_val r 1 (by omega) (by omega) w3
  rw [Sw_toRelationS_val x zx, Option.bind_some, Sw_toView_val v zv, Option.bind_some]
  dsimp only
  rw [w1, Option.bind_some, Option.bind_some, Option.bind_some, w2, Option.bind_some]
  dsimp only
  rw [Sw_eqView_val r w3, Option.bind_some]
  simp only [Bool.not_true, cond_false, beq_self_eq_true, Option.bind_some, Sw_eqRelationS_val x zx, Sw_eqView_val v zv, m1, m2, n1, Sw_eqView_val r w3, m3, m4, n2, bne_self_eq_false, w2]

end Go.Proofs.YtkanidldnnfloaaGreat.P.It
