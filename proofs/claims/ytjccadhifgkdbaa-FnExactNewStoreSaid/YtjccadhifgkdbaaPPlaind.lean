/- A part of the proof: Plaind. No conditions. -/
import Derived.Test.YtjccadhifgkdbaaPIt3d
import Derived.Test.YtjccadhifgkdbaaPG6
set_option linter.unusedVariables false
set_option linter.unusedSimpArgs false
namespace Go.Proofs.Ytjccadhifgkdbaa.P.It
open Am
/-! ### numbers, lists, loops -/
theorem wrap_id {x : Int} (h1 : -9223372036854775808 ≤ x) (h2 : x ≤ 9223372036854775807) : IntKind.i64.wrap x = x := by
  rw [IntKind.wrap_i64]; omega
theorem getI_ok {α : Type} {xs : List α} {i : Nat} (h : i < xs.length) : getI xs (i : Int) = some xs[i] := by
  unfold getI
  rw [if_pos (by omega)]
  simp [h]
theorem wrap_succ {i : Nat} (h : i ≤ 1000000000000) : IntKind.i64.wrap ((i : Int) + 1) = ((i + 1 : Nat) : Int) := by
  rw [wrap_id] <;> omega
theorem wrap_up {k : Int} (h0 : 0 ≤ k) (h1 : k ≤ 1000000000000000000) : IntKind.i64.wrap (k + 1) = k + 1 := wrap_id (by omega) (by omega)
theorem lt_yes {i n : Nat} (h : i < n) : decide ((i : Int) < (n : Int)) = true := by simp; omega
theorem lt_no (n : Nat) : decide ((n : Int) < (n : Int)) = false := by simp
theorem maxLen_is : maxLen = 9223372036854775807 := by decide
theorem getI_set {α : Type} {x : List α} {i : Nat} (h : i < x.length) (v : α) : getI (x.set i v) (i : Int) = some v := by
  rw [getI_ok (by simpa using h)]; simp
theorem mk_ok {α R : Type} (x : List α) (c : Int) (hl : x.length ≤ 68719476736) (h0 : 0 ≤ c) (hc : c ≤ 1000) (A B : R) : (bif decide (0 ≤ (x.length : Int)) && decide ((x.length : Int) ≤ (x.length : Int)) && decide ((x.length : Int) * c ≤ 140737488355328) && decide ((x.length : Int) ≤ 9223372036854775807) then A else B) = A := by
  have h1 : (x.length : Int) * c ≤ 68719476736 * 1000 := Int.mul_le_mul (by omega) hc h0 (by omega)
  have h2 : (x.length : Int) * c ≤ 140737488355328 := by omega
  have h3 : (x.length : Int) ≤ 9223372036854775807 := by omega
  simp [h2, h3]
/-- All elements. -/
theorem all_loop {α R : Type} (x : List α) (p : α → Bool) (F E : Option R) (f : Int → Option R) (hl : x.length ≤ 68719476736)
    (h1 : ∀ (i : Nat) (h : i < x.length), f (i : Int) = bif p x[i] then f ((i + 1 : Nat) : Int) else F) (h2 : f (x.length : Int) = E) :
    ∀ (n i : Nat), n + i = x.length → f (i : Int) = bif (x.drop i).all p then E else F
  | 0, i, hn => by
    obtain rfl : i = x.length := by omega
    rw [h2, List.drop_eq_nil_of_le (by omega)]
    rfl
  | n + 1, i, hn => by
    have hi : i < x.length := by omega
    rw [h1 i hi, all_loop x p F E f hl h1 h2 n (i + 1) (by omega), List.drop_eq_getElem_cons hi, List.all_cons]
    cases p x[i] <;> rfl
theorem all0 {α R : Type} (x : List α) (p : α → Bool) (F E : Option R) (f : Int → Option R) (hl : x.length ≤ 68719476736)
    (h1 : ∀ (i : Nat) (h : i < x.length), f (i : Int) = bif p x[i] then f ((i + 1 : Nat) : Int) else F) (h2 : f (x.length : Int) = E) : f 0 = bif x.all p then E else F := by
  have := all_loop x p F E f hl h1 h2 x.length 0 (by omega)
  rwa [List.drop_zero] at this
/-- The first of some elements. -/
def findB {α : Type} (p : α → Bool) (x : List α) : Int := if x.findIdx p < x.length then (x.findIdx p : Int) else -1
theorem find_loop {α R : Type} (x : List α) (p : α → Bool) (r : Int → Option R) (f : Int → Option R)
    (h1 : ∀ (i : Nat) (h : i < x.length), f (i : Int) = bif p x[i] then r (i : Int) else f ((i + 1 : Nat) : Int)) (h2 : f (x.length : Int) = r (-1)) :
    ∀ (n i : Nat), n + i = x.length → (∀ j (h : j < x.length), j < i → p x[j] = false) → f (i : Int) = r (findB p x)
  | 0, i, hn, hp => by
    obtain rfl : i = x.length := by omega
    have : x.findIdx p = x.length := List.findIdx_eq_length.2 (fun y hy => by
      obtain ⟨j, hj, rfl⟩ := List.mem_iff_getElem.1 hy
      exact hp j hj hj)
    rw [h2]
    unfold findB
    rw [if_neg (by omega)]
  | n + 1, i, hn, hp => by
    have hi : i < x.length := by omega
    rw [h1 i hi]
    cases hb : p x[i] with
    | true =>
      have : x.findIdx p = i := (List.findIdx_eq hi).2 ⟨hb, fun j hj => hp j (by omega) hj⟩
      unfold findB
      rw [this, if_pos hi]
      rfl
    | false =>
      rw [cond_false]
      exact find_loop x p r f h1 h2 n (i + 1) (by omega) (fun j hj hji => by
        by_cases he : j = i
        · subst he; exact hb
        · exact hp j hj (by omega))

/-! ### what is left of a purse -/
def subN (k : Int) (n : Nat) : Int := if (n : Int) ≤ k then k - n else -1
theorem subN_no {k : Int} {n : Nat} (h : ¬ (n : Int) ≤ k) : subN k n = -1 := if_neg h
theorem subN_yes {k : Int} {n : Nat} (h : (n : Int) ≤ k) : subN k n = k - n := if_pos h
theorem subN_cases (k : Int) (n : Nat) : (subN k n = -1 ∧ ¬ (n : Int) ≤ k) ∨ ∃ m, subN k n = m ∧ m = k - n ∧ 0 ≤ m := by
  by_cases h : (n : Int) ≤ k
  · exact .inr ⟨_, subN_yes h, rfl, by omega⟩
  · exact .inl ⟨subN_no h, h⟩
theorem subN_more {R : Type} {k : Int} {a b : Nat} {u : R} (h : 0 ≤ k - (a : Int)) : some ((subN (k - (a : Int)) b, u), u) = some ((subN k (a + b), u), u) := by
  congr 3
  unfold subN
  by_cases h1 : (b : Int) ≤ k - a
  · rw [if_pos h1, if_pos (by omega)]; omega
  · rw [if_neg h1, if_neg (by omega)]
def zB (x : ByteArray) : Nat := x.size
def zI (x : List Int) : Nat := x.length
def zL {α : Type} (f : α → Nat) (x : List α) : Nat := x.length + (x.map f).sum
theorem zL_len {α : Type} (f : α → Nat) (x : List α) : x.length ≤ zL f x := Nat.le_add_right _ _
theorem zL_mem {α : Type} (f : α → Nat) {x : List α} {y : α} (h : y ∈ x) : f y ≤ zL f x := by
  have : f y ≤ (x.map f).sum := by
    induction x with
    | nil => cases h
    | cons a l ih =>
      rw [List.map_cons, List.sum_cons]
      rcases List.mem_cons.1 h with rfl | h
      · omega
      · have := ih h; omega
  unfold zL
  omega
theorem sz_loopS (x : List ByteArray) (g : ByteArray → Nat) (f : Int → Int → Option ((Int × PUnit) × PUnit)) (hl : x.length ≤ 1048576) (hW : ∀ y ∈ x, g y ≤ maxLen)
    (h1 : ∀ (i : Nat) (h : i < x.length) k, f k (i : Int) = bif decide (IntKind.i64.wrap (k - (g x[i] : Int)) < 0) then some ((-1, ()), ()) else f (IntKind.i64.wrap (k - (g x[i] : Int))) ((i + 1 : Nat) : Int)) (h2 : ∀ k, f k (x.length : Int) = some ((k, ()), ())) :
    ∀ (n i : Nat) (k : Int), n + i = x.length → 0 ≤ k → k ≤ 1048576 → f k (i : Int) = some ((subN k ((x.drop i).map g).sum, ()), ())
  | 0, i, k, hn, h0, hk => by
    obtain rfl : i = x.length := by omega
    rw [h2, List.drop_eq_nil_of_le (by omega), subN_yes (by simpa using h0)]
    simp
  | n + 1, i, k, hn, h0, hk => by
    have hi : i < x.length := by omega
    have hw := hW _ (List.getElem_mem hi)
    rw [maxLen_is] at hw
    rw [h1 i hi, List.drop_eq_getElem_cons hi, List.map_cons, List.sum_cons, wrap_id (by omega) (by omega)]
    by_cases d : k - (g x[i] : Int) < 0
    · simp only [d, decide_true, cond_true]; rw [subN_no (by omega)]
    · simp only [d, decide_false, cond_false]
      rw [sz_loopS x g f hl hW h1 h2 n (i + 1) _ (by omega) (by omega) (by omega)]
      exact subN_more (by omega)
/-- Copies. -/
theorem copy_loop {α : Type} (x : List α) (S : α → Option ((α × PUnit) × PUnit)) (f : List α → Int → Option ((List α × PUnit) × PUnit)) (hl : x.length ≤ 68719476736) (hS : ∀ y ∈ x, S y = some ((y, ()), ()))
    (h1 : ∀ (i : Nat) (h : i < x.length) (v : List α), v.length = x.length → f v (i : Int) = (S x[i]).bind fun y => f (v.set i y.1.1) ((i + 1 : Nat) : Int)) (h2 : ∀ v : List α, f v (x.length : Int) = some ((v, ()), ())) :
    ∀ (n i : Nat) (v : List α), n + i = x.length → v.length = x.length → f v (i : Int) = some ((v.take i ++ x.drop i, ()), ())
  | 0, i, v, hn, hv => by
    obtain rfl : i = x.length := by omega
    rw [h2, List.take_of_length_le (by omega), List.drop_eq_nil_of_le (by omega), List.append_nil]
  | n + 1, i, v, hn, hv => by
    have hi : i < x.length := by omega
    rw [h1 i hi v hv, hS _ (List.getElem_mem hi)]
    simp only [Option.bind_some]
    rw [copy_loop x S f hl hS h1 h2 n (i + 1) _ (by omega) (by simpa using hv)]
    congr 3
    have e1 : (v.set i x[i]).take (i + 1) = v.take i ++ [x[i]] := by
      rw [List.take_add_one, List.take_set_of_le (by omega)]
      simp [hv, hi]
    rw [e1, List.append_assoc, List.singleton_append]
    congr 1
    exact (List.drop_eq_getElem_cons hi).symm
theorem copy0 {α : Type} (x : List α) (S : α → Option ((α × PUnit) × PUnit)) (f : List α → Int → Option ((List α × PUnit) × PUnit)) (hl : x.length ≤ 68719476736) (hS : ∀ y ∈ x, S y = some ((y, ()), ()))
    (h1 : ∀ (i : Nat) (h : i < x.length) (v : List α), v.length = x.length → f v (i : Int) = (S x[i]).bind fun y => f (v.set i y.1.1) ((i + 1 : Nat) : Int)) (h2 : ∀ v : List α, f v (x.length : Int) = some ((v, ()), ())) (v : List α) (hv : v.length = x.length) :
    f v 0 = some ((x, ()), ()) := by
  have := copy_loop x S f hl hS h1 h2 x.length 0 v (by omega) hv
  rw [Int.natCast_zero] at this
  rw [this]; simp
/-- Equalities of a thing with itself. -/
theorem eq_loop {α R : Type} (x : List α) (E : Option R) (f : Int → Option R) (hl : x.length ≤ 68719476736)
    (h1 : ∀ (i : Nat) (h : i < x.length), f (i : Int) = f ((i + 1 : Nat) : Int)) (h2 : f (x.length : Int) = E) : f 0 = E := by
  have := all0 x (fun _ => true) E E f hl (fun i h => by simpa using h1 i h) h2
  rw [this]
  cases x.all _ <;> rfl

/-! ### the data -/
def zA (x : Atm) : Nat := zI x.1
def zC (x : Cel) : Nat := zL zA x.2
def zR (x : Rw) : Nat := zB x.1 + zC x.2
def zQ (x : Rel) : Nat := zB x.1 + zL zR x.2.2
def zN (x : Nod) : Nat := zA x.2.1 + zB x.2.2.1 + zB x.2.2.2.1 + zI x.2.2.2.2.1
def zS (x : Sto) : Nat := zL (zL zN) x.1 + zL (zL zQ) x.2
theorem Sw_szStringS_val (x : List ByteArray) (k : Int) (w : WfD (.slice 0 .str) x) (h0 : 0 ≤ k) (hk : k ≤ 1048576) : Sw_szStringS x k = some ((subN k (zL zB x), ()), ()) := by
  have hl : x.length ≤ maxLen := w.1
  rw [maxLen_is] at hl
  rw [Sw_szStringS_eq, wrap_id (by omega) (by omega)]
  have hz : zL zB x = x.length + (x.map zB).sum := rfl
  by_cases h : k - (x.length : Int) < 0
  · simp only [h, decide_true, cond_true]; rw [subN_no (by rw [hz]; omega)]
  · simp only [h, decide_false, cond_false]
    have := sz_loopS x zB (fun k i => Lw_szStringS_5 x k i) (by omega) (fun y hy => w.2 y hy) (fun i hi k => by
      rw [Lw_szStringS_5_eq, getI_ok hi, lt_yes hi, wrap_succ (by omega)]; simp only [cond_true, Option.bind_some]; rfl) (fun k => by rw [Lw_szStringS_5_eq, lt_no]; rfl) x.length 0 (k - (x.length : Int)) (by omega) (by omega) (by omega)
    rw [Int.natCast_zero] at this
    refine this.trans ?_
    rw [List.drop_zero, hz, subN_more (by omega)]
theorem Sw_toIntS_val (x : List Int) (h : zI x ≤ 68719476736) : Sw_toIntS x = some ((x, ()), ()) := by
  have hl : x.length ≤ 68719476736 := h
  rw [Sw_toIntS_eq, mk_ok x 8 hl (by omega) (by omega)]
  exact copy0 x (fun y => some ((y, ()), ())) (fun v i => Lw_toIntS_3 x v i) hl (fun y _ => rfl) (fun i hi v hv => by
    rw [Lw_toIntS_3_eq, lt_yes hi, wrap_succ (by omega)]
    simp only [getI_ok hi, getI_ok (show i < v.length by omega), cond_true, Option.bind_some, Int.toNat_natCast]) (fun v => by rw [Lw_toIntS_3_eq, lt_no]; rfl) _ (by simp)
theorem Sw_toStringS_val (x : List ByteArray) (h : zL zB x ≤ 68719476736) : Sw_toStringS x = some ((x, ()), ()) := by
  have hl : x.length ≤ 68719476736 := Nat.le_trans (zL_len _ x) h
  rw [Sw_toStringS_eq, mk_ok x 16 hl (by omega) (by omega)]
  exact copy0 x (fun y => some ((y, ()), ())) (fun v i => Lw_toStringS_3 x v i) hl (fun y _ => rfl) (fun i hi v hv => by
    rw [Lw_toStringS_3_eq, lt_yes hi, wrap_succ (by omega)]
    simp only [getI_ok hi, getI_ok (show i < v.length by omega), cond_true, Option.bind_some, Int.toNat_natCast]) (fun v => by rw [Lw_toStringS_3_eq, lt_no]; rfl) _ (by simp)
theorem Sw_eqIntS_val (x : List Int) (h : zI x ≤ 68719476736) : Sw_eqIntS x x = some ((true, ()), ()) := by
  have hl : x.length ≤ 68719476736 := h
  rw [Sw_eqIntS_eq]
  simp only [bne_self_eq_false, cond_false]
  refine eq_loop x (some ((true, ()), ())) (fun i => Lw_eqIntS_4 x x i) hl (fun i hi => ?_) ?_
  · rw [Lw_eqIntS_4_eq, lt_yes hi, wrap_succ (by omega)]
    simp only [getI_ok hi, cond_true, Option.bind_some, bne_self_eq_false, beq_self_eq_true, Bool.not_true, cond_false]
  · rw [Lw_eqIntS_4_eq, lt_no]; rfl
theorem Sw_eqStringS_val (x : List ByteArray) (h : zL zB x ≤ 68719476736) : Sw_eqStringS x x = some ((true, ()), ()) := by
  have hl : x.length ≤ 68719476736 := Nat.le_trans (zL_len _ x) h
  rw [Sw_eqStringS_eq]
  simp only [bne_self_eq_false, cond_false]
  refine eq_loop x (some ((true, ()), ())) (fun i => Lw_eqStringS_4 x x i) hl (fun i hi => ?_) ?_
  · rw [Lw_eqStringS_4_eq, lt_yes hi, wrap_succ (by omega)]
    simp only [getI_ok hi, cond_true, Option.bind_some, bne_self_eq_false, beq_self_eq_true, Bool.not_true, cond_false]
  · rw [Lw_eqStringS_4_eq, lt_no]; rfl
theorem Sw_eqAtom_val (x : Atm) (h : zA x ≤ 68719476736) : Sw_eqAtom x x = some ((true, ()), ()) := by
  have hz : zA x = zI x.1 := rfl
  rw [Sw_eqAtom_eq]
  simp only [bne_self_eq_false, beq_self_eq_true, Bool.not_true, cond_false, Option.bind_some, Sw_eqIntS_val x.1 (by omega)]
theorem Sw_eqAtomS_val (x : List Atm) (h : zL zA x ≤ 68719476736) : Sw_eqAtomS x x = some ((true, ()), ()) := by
  have hl : x.length ≤ 68719476736 := Nat.le_trans (zL_len _ x) h
  rw [Sw_eqAtomS_eq]
  simp only [bne_self_eq_false, cond_false]
  refine eq_loop x (some ((true, ()), ())) (fun i => Lw_eqAtomS_4 x x i) hl (fun i hi => ?_) ?_
  · rw [Lw_eqAtomS_4_eq, lt_yes hi, wrap_succ (by omega)]
    simp only [getI_ok hi, cond_true, Option.bind_some, Sw_eqAtom_val _ (Nat.le_trans (zL_mem _ (List.getElem_mem hi)) h), Bool.not_true, cond_false]
  · rw [Lw_eqAtomS_4_eq, lt_no]; rfl
theorem Sw_eqCell_val (x : Cel) (h : zC x ≤ 68719476736) : Sw_eqCell x x = some ((true, ()), ()) := by
  have hz : zC x = zL zA x.2 := rfl
  rw [Sw_eqCell_eq]
  simp only [bne_self_eq_false, beq_self_eq_true, Bool.not_true, cond_false, Option.bind_some, Sw_eqAtomS_val x.2 (by omega)]
theorem Sw_eqRow_val (x : Rw) (h : zR x ≤ 68719476736) : Sw_eqRow x x = some ((true, ()), ()) := by
  have hz : zR x = zB x.1 + zC x.2 := rfl
  rw [Sw_eqRow_eq]
  simp only [bne_self_eq_false, beq_self_eq_true, Bool.not_true, cond_false, Option.bind_some, Sw_eqCell_val x.2 (by omega)]
theorem Sw_eqRowS_val (x : List Rw) (h : zL zR x ≤ 68719476736) : Sw_eqRowS x x = some ((true, ()), ()) := by
  have hl : x.length ≤ 68719476736 := Nat.le_trans (zL_len _ x) h
  rw [Sw_eqRowS_eq]
  simp only [bne_self_eq_false, cond_false]
  refine eq_loop x (some ((true, ()), ())) (fun i => Lw_eqRowS_4 x x i) hl (fun i hi => ?_) ?_
  · rw [Lw_eqRowS_4_eq, lt_yes hi, wrap_succ (by omega)]
    simp only [getI_ok hi, cond_true, Option.bind_some, Sw_eqRow_val _ (Nat.le_trans (zL_mem _ (List.getElem_mem hi)) h), Bool.not_true, cond_false]
  · rw [Lw_eqRowS_4_eq, lt_no]; rfl
theorem Sw_eqRelation_val (x : Rel) (h : zQ x ≤ 68719476736) : Sw_eqRelation x x = some ((true, ()), ()) := by
  have hz : zQ x = zB x.1 + zL zR x.2.2 := rfl
  rw [Sw_eqRelation_eq]
  simp only [bne_self_eq_false, beq_self_eq_true, Bool.not_true, cond_false, Option.bind_some, Sw_eqRowS_val x.2.2 (by omega)]
theorem Sw_eqRelationS_val (x : List Rel) (h : zL zQ x ≤ 68719476736) : Sw_eqRelationS x x = some ((true, ()), ()) := by
  have hl : x.length ≤ 68719476736 := Nat.le_trans (zL_len _ x) h
  rw [Sw_eqRelationS_eq]
  simp only [bne_self_eq_false, cond_false]
  refine eq_loop x (some ((true, ()), ())) (fun i => Lw_eqRelationS_4 x x i) hl (fun i hi => ?_) ?_
  · rw [Lw_eqRelationS_4_eq, lt_yes hi, wrap_succ (by omega)]
    simp only [getI_ok hi, cond_true, Option.bind_some, Sw_eqRelation_val _ (Nat.le_trans (zL_mem _ (List.getElem_mem hi)) h), Bool.not_true, cond_false]
  · rw [Lw_eqRelationS_4_eq, lt_no]; rfl
theorem Sw_eqRelationSS_val (x : List (List Rel)) (h : zL (zL zQ) x ≤ 68719476736) : Sw_eqRelationSS x x = some ((true, ()), ()) := by
  have hl : x.length ≤ 68719476736 := Nat.le_trans (zL_len _ x) h
  rw [Sw_eqRelationSS_eq]
  simp only [bne_self_eq_false, cond_false]
  refine eq_loop x (some ((true, ()), ())) (fun i => Lw_eqRelationSS_4 x x i) hl (fun i hi => ?_) ?_
  · rw [Lw_eqRelationSS_4_eq, lt_yes hi, wrap_succ (by omega)]
    simp only [getI_ok hi, cond_true, Option.bind_some, Sw_eqRelationS_val _ (Nat.le_trans (zL_mem _ (List.getElem_mem hi)) h), Bool.not_true, cond_false]
  · rw [Lw_eqRelationSS_4_eq, lt_no]; rfl
theorem Sw_eqNode_val (x : Nod) (h : zN x ≤ 68719476736) : Sw_eqNode x x = some ((true, ()), ()) := by
  have hz : zN x = zA x.2.1 + zB x.2.2.1 + zB x.2.2.2.1 + zI x.2.2.2.2.1 := rfl
  rw [Sw_eqNode_eq]
  simp only [bne_self_eq_false, beq_self_eq_true, Bool.not_true, cond_false, Option.bind_some, Sw_eqAtom_val x.2.1 (by omega), Sw_eqIntS_val x.2.2.2.2.1 (by omega)]
theorem Sw_eqNodeS_val (x : List Nod) (h : zL zN x ≤ 68719476736) : Sw_eqNodeS x x = some ((true, ()), ()) := by
  have hl : x.length ≤ 68719476736 := Nat.le_trans (zL_len _ x) h
  rw [Sw_eqNodeS_eq]
  simp only [bne_self_eq_false, cond_false]
  refine eq_loop x (some ((true, ()), ())) (fun i => Lw_eqNodeS_4 x x i) hl (fun i hi => ?_) ?_
  · rw [Lw_eqNodeS_4_eq, lt_yes hi, wrap_succ (by omega)]
    simp only [getI_ok hi, cond_true, Option.bind_some, Sw_eqNode_val _ (Nat.le_trans (zL_mem _ (List.getElem_mem hi)) h), Bool.not_true, cond_false]
  · rw [Lw_eqNodeS_4_eq, lt_no]; rfl
theorem Sw_eqNodeSS_val (x : List (List Nod)) (h : zL (zL zN) x ≤ 68719476736) : Sw_eqNodeSS x x = some ((true, ()), ()) := by
  have hl : x.length ≤ 68719476736 := Nat.le_trans (zL_len _ x) h
  rw [Sw_eqNodeSS_eq]
  simp only [bne_self_eq_false, cond_false]
  refine eq_loop x (some ((true, ()), ())) (fun i => Lw_eqNodeSS_4 x x i) hl (fun i hi => ?_) ?_
  · rw [Lw_eqNodeSS_4_eq, lt_yes hi, wrap_succ (by omega)]
    simp only [getI_ok hi, cond_true, Option.bind_some, Sw_eqNodeS_val _ (Nat.le_trans (zL_mem _ (List.getElem_mem hi)) h), Bool.not_true, cond_false]
  · rw [Lw_eqNodeSS_4_eq, lt_no]; rfl
theorem Sw_eqStore_val (x : Sto) (h : zS x ≤ 68719476736) : Sw_eqStore x x = some ((true, ()), ()) := by
  have hz : zS x = zL (zL zN) x.1 + zL (zL zQ) x.2 := rfl
  rw [Sw_eqStore_eq]
  simp only [bne_self_eq_false, beq_self_eq_true, Bool.not_true, cond_false, Option.bind_some, Sw_eqNodeSS_val x.1 (by omega), Sw_eqRelationSS_val x.2 (by omega)]
/-! ### marks -/
def mL {α : Type} (m : α → Int → α × Int) : List α → Int → List α × Int
  | [], k => ([], k)
  | y :: l, k => ((m y k).1 :: (mL m l (m y k).2).1, (mL m l (m y k).2).2)
def mI (_ : Int) (k : Int) : Int × Int := (k, k + 1)
def Md {α : Type} (m : α → Int → α × Int) (z : α → Nat) : Prop := ∀ y k, k ≤ (m y k).2 ∧ (m y k).2 ≤ k + 12 * z y + 12
theorem mL_md {α : Type} {m : α → Int → α × Int} {z : α → Nat} (h : Md m z) : ∀ (x : List α) (k : Int), k ≤ (mL m x k).2 ∧ (mL m x k).2 ≤ k + 12 * zL z x
  | [], k => by simp [mL, zL]
  | y :: l, k => by
    have h1 := h y k
    have h2 := mL_md h l (m y k).2
    have e : zL z (y :: l) = 1 + z y + zL z l := by simp only [zL, List.length_cons, List.map_cons, List.sum_cons]; omega
    simp only [mL]
    omega
theorem mdI : Md mI (fun _ => 0) := fun y k => by unfold mI; simp only []; omega
theorem mL_mdI (x : List Int) (k : Int) : k ≤ (mL mI x k).2 ∧ (mL mI x k).2 ≤ k + 12 * zI x := by
  have := mL_md mdI x k
  have e : zL (fun _ : Int => 0) x = zI x := by
    unfold zL zI
    have : ∀ l : List Int, (l.map (fun _ => 0)).sum = 0 := fun l => by induction l <;> simp_all
    rw [this]; rfl
  rw [e] at this
  exact this
theorem mL_len {α : Type} (m : α → Int → α × Int) : ∀ (x : List α) (k : Int), (mL m x k).1.length = x.length
  | [], _ => rfl
  | y :: l, k => by simp only [mL, List.length_cons, mL_len m l]
theorem mark_loop {α : Type} (m : α → Int → α × Int) (z : α → Nat) (hm : ∀ y k, k ≤ (m y k).2) (f : List α → Int → Int → Option ((Int × PUnit) × List α × PUnit))
    (h1 : ∀ (v : List α) (k : Int) (i : Nat) (hi : i < v.length), v.length ≤ 68719476736 → 0 ≤ k → (m v[i] k).2 ≤ 1000000000000000000 → z v[i] ≤ 68719476736 → f v k (i : Int) = f (v.set i (m v[i] k).1) (m v[i] k).2 ((i + 1 : Nat) : Int))
    (h2 : ∀ v k, f v k (v.length : Int) = some ((k, ()), v, ())) (hmL : ∀ x k, k ≤ (mL m x k).2) :
    ∀ (x pre : List α) (k : Int), 0 ≤ k → (mL m x k).2 ≤ 1000000000000000000 → (pre ++ x).length ≤ 68719476736 → (∀ y ∈ x, z y ≤ 68719476736) → f (pre ++ x) k (pre.length : Int) = some (((mL m x k).2, ()), pre ++ (mL m x k).1, ())
  | [], pre, k, _, _, _, _ => by
    rw [List.append_nil, h2]
    simp [mL]
  | y :: l, pre, k, h0, hk, hl, hz => by
    have hy : (pre ++ y :: l)[pre.length]'(by simp) = y := by simp
    have a1 := hm y k
    have a2 := hmL l (m y k).2
    simp only [mL] at hk ⊢
    rw [h1 (pre ++ y :: l) k pre.length (by simp) hl h0 (by rw [hy]; omega) (by rw [hy]; exact hz y (by simp)), hy]
    have e : (pre ++ y :: l).set pre.length (m y k).1 = (pre ++ [(m y k).1]) ++ l := by simp
    rw [e]
    have := mark_loop m z hm f h1 h2 hmL l (pre ++ [(m y k).1]) (m y k).2 (by omega) hk (by simp at hl ⊢; omega) (fun q hq => hz q (List.mem_cons_of_mem _ hq))
    rw [List.length_append, List.length_singleton] at this
    rw [this, List.append_assoc, List.singleton_append]
theorem mark0 {α : Type} (m : α → Int → α × Int) (z : α → Nat) (hm : ∀ y k, k ≤ (m y k).2) (f : List α → Int → Int → Option ((Int × PUnit) × List α × PUnit)) (hmL : ∀ x k, k ≤ (mL m x k).2) (x : List α) (k : Int) (h0 : 0 ≤ k) (hk : (mL m x k).2 ≤ 1000000000000000000) (hl : x.length ≤ 68719476736) (hz : ∀ y ∈ x, z y ≤ 68719476736)
    (h1 : ∀ (v : List α) (k : Int) (i : Nat) (hi : i < v.length), v.length ≤ 68719476736 → 0 ≤ k → (m v[i] k).2 ≤ 1000000000000000000 → z v[i] ≤ 68719476736 → f v k (i : Int) = f (v.set i (m v[i] k).1) (m v[i] k).2 ((i + 1 : Nat) : Int))
    (h2 : ∀ v k, f v k (v.length : Int) = some ((k, ()), v, ())) :
    f x k 0 = some (((mL m x k).2, ()), (mL m x k).1, ()) := by
  have := mark_loop m z hm f h1 h2 hmL x [] k h0 hk (by simpa using hl) hz
  simpa using this
theorem held_loop {α : Type} (m : α → Int → α × Int) (z : α → Nat) (hm : ∀ y k, k ≤ (m y k).2) (f : List α → Int → Int → Option ((Int × PUnit) × PUnit))
    (h1 : ∀ (v : List α) (k : Int) (i : Nat) (hi : i < v.length) (y : α), v[i] = (m y k).1 → v.length ≤ 68719476736 → 0 ≤ k → (m y k).2 ≤ 1000000000000000000 → z y ≤ 68719476736 → f v k (i : Int) = f v (m y k).2 ((i + 1 : Nat) : Int))
    (h2 : ∀ v k, f v k (v.length : Int) = some ((k, ()), ())) (hmL : ∀ x k, k ≤ (mL m x k).2) :
    ∀ (x pre : List α) (k : Int), 0 ≤ k → (mL m x k).2 ≤ 1000000000000000000 → (pre ++ x).length ≤ 68719476736 → (∀ y ∈ x, z y ≤ 68719476736) → f (pre ++ (mL m x k).1) k (pre.length : Int) = some (((mL m x k).2, ()), ())
  | [], pre, k, _, _, _, _ => by
    simp only [mL, List.append_nil]
    rw [h2]
  | y :: l, pre, k, h0, hk, hl, hz => by
    have a1 := hm y k
    have a2 := hmL l (m y k).2
    simp only [mL] at hk ⊢
    rw [h1 _ k pre.length (by simp) y (by simp) (by simp [mL_len] at hl ⊢; omega) h0 (by omega) (hz y (by simp))]
    have := held_loop m z hm f h1 h2 hmL l (pre ++ [(m y k).1]) (m y k).2 (by omega) hk (by simp at hl ⊢; omega) (fun q hq => hz q (List.mem_cons_of_mem _ hq))
    rw [List.length_append, List.length_singleton, List.append_assoc, List.singleton_append] at this
    exact this
theorem held0 {α : Type} (m : α → Int → α × Int) (z : α → Nat) (hm : ∀ y k, k ≤ (m y k).2) (f : List α → Int → Int → Option ((Int × PUnit) × PUnit)) (hmL : ∀ x k, k ≤ (mL m x k).2) (x : List α) (k : Int) (h0 : 0 ≤ k) (hk : (mL m x k).2 ≤ 1000000000000000000) (hl : x.length ≤ 68719476736) (hz : ∀ y ∈ x, z y ≤ 68719476736)
    (h1 : ∀ (v : List α) (k : Int) (i : Nat) (hi : i < v.length) (y : α), v[i] = (m y k).1 → v.length ≤ 68719476736 → 0 ≤ k → (m y k).2 ≤ 1000000000000000000 → z y ≤ 68719476736 → f v k (i : Int) = f v (m y k).2 ((i + 1 : Nat) : Int))
    (h2 : ∀ v k, f v k (v.length : Int) = some ((k, ()), ())) :
    f (mL m x k).1 k 0 = some (((mL m x k).2, ()), ()) := by
  have := held_loop m z hm f h1 h2 hmL x [] k h0 hk (by simpa using hl) hz
  simpa using this

theorem strOf_one (b : Int) : (strOf [b]).size = 1 := rfl
theorem Lw_markText_4_val : ∀ (n : Nat) (k : Int) (s : ByteArray), 0 ≤ k → k < 10 ^ n → k ≤ 1000000000000000000 → s.size + n ≤ 1000 → ∃ r, Lw_markText_4 k s = some ((r, ()), ())
  | 0, k, s, h0, h1, hb, hs => by
    have hk : k = 0 := by simp at h1; omega
    rw [Lw_markText_4_eq, hk]
    have e : decide ((ByteArray.mk #[109]).size + s.size ≤ 140737488355328) = true := by
      have : (ByteArray.mk #[109]).size = 1 := rfl
      rw [this]; simp; omega
    simp only [e, cond_true]
    exact ⟨_, rfl⟩
  | n + 1, k, s, h0, h1, hb, hs => by
    rw [Lw_markText_4_eq]
    by_cases hk : k > 0
    · have e : decide ((strOf [IntKind.u8.wrap (IntKind.i64.wrap (48 + k.tmod 10))]).size + s.size ≤ 140737488355328) = true := by
        rw [strOf_one]; simp; omega
      have hq : k.tdiv 10 = k / 10 := Int.tdiv_eq_ediv_of_nonneg h0
      have h3 : (10 : Int) ^ (n + 1) = 10 ^ n * 10 := Int.pow_succ _ _
      simp only [hk, decide_true, cond_true, e]
      rw [hq, wrap_id (by omega) (by omega)]
      exact Lw_markText_4_val n (k / 10) _ (by omega) (by omega) (by omega) (by rw [ByteArray.size_append, strOf_one]; omega)
    · have e : decide ((ByteArray.mk #[109]).size + s.size ≤ 140737488355328) = true := by
        have : (ByteArray.mk #[109]).size = 1 := rfl
        rw [this]; simp; omega
      simp only [hk, decide_false, cond_false, e, cond_true]
      exact ⟨_, rfl⟩
noncomputable def mtx (k : Int) : ByteArray := match Sw_markText k with
  | some r => r.1.1
  | none => ByteArray.empty
theorem Sw_markText_val (k : Int) (h0 : 0 ≤ k) (h1 : k ≤ 1000000000000000000) : Sw_markText k = some ((mtx k, ()), ()) := by
  have : ∃ r, Sw_markText k = some ((r, ()), ()) := by
    rw [Sw_markText_eq]
    by_cases h : k ≤ 0
    · simp only [h, decide_true, cond_true]; exact ⟨_, rfl⟩
    · simp only [h, decide_false, cond_false]
      have e1 : (10 : Int) ^ 19 = 10000000000000000000 := by decide
      have e2 : (ByteArray.mk #[]).size = 0 := rfl
      exact Lw_markText_4_val 19 k (ByteArray.mk #[]) h0 (by omega) h1 (by omega)
  obtain ⟨r, hr⟩ := this
  unfold mtx
  rw [hr]
noncomputable def mTx (_ : ByteArray) (k : Int) : ByteArray × Int := (mtx k, k + 1)
theorem mdTx : Md mTx zB := fun y k => by unfold mTx; simp only []; omega

theorem Sw_markIntS_val (x : List Int) (k : Int) (h0 : 0 ≤ k) (hk : (mL mI x k).2 ≤ 1000000000000000000) (hl : x.length ≤ 68719476736) : Sw_markIntS x k = some (((mL mI x k).2, ()), (mL mI x k).1, ()) := by
  rw [Sw_markIntS_eq]
  refine mark0 mI (fun _ => 0) (fun y k => (mdI y k).1) (fun v k i => Lw_markIntS_2 v k i) (fun x k => (mL_mdI x k).1) x k h0 hk hl (fun _ _ => Nat.zero_le _) (fun v k i hi hl h0 hk hz => ?_) (fun v k => by rw [Lw_markIntS_2_eq, lt_no]; rfl)
  have hk2 : k + 1 ≤ 1000000000000000000 := hk
  have w0 : IntKind.i64.wrap (k + 1) = k + 1 := wrap_up (by omega) (by omega)
  rw [Lw_markIntS_2_eq, lt_yes hi, wrap_succ (by omega)]
  simp only [cond_true, Option.bind_some, getI_ok hi, getI_set hi, List.set_set, Int.toNat_natCast, w0]
  try rfl
theorem Sw_heldIntS_val (x : List Int) (k : Int) (h0 : 0 ≤ k) (hk : (mL mI x k).2 ≤ 1000000000000000000) (hl : x.length ≤ 68719476736) : Sw_heldIntS (mL mI x k).1 k = some (((mL mI x k).2, ()), ()) := by
  rw [Sw_heldIntS_eq]
  refine held0 mI (fun _ => 0) (fun y k => (mdI y k).1) (fun v k i => Lw_heldIntS_2 v k i) (fun x k => (mL_mdI x k).1) x k h0 hk hl (fun _ _ => Nat.zero_le _) (fun v k i hi y hy hl h0 hk hz => ?_) (fun v k => by rw [Lw_heldIntS_2_eq, lt_no]; rfl)
  have hk2 : k + 1 ≤ 1000000000000000000 := hk
  have w0 : IntKind.i64.wrap (k + 1) = k + 1 := wrap_up (by omega) (by omega)
  rw [Lw_heldIntS_2_eq, lt_yes hi, getI_ok hi, hy, wrap_succ (by omega)]
  simp only [mI, cond_true, Option.bind_some, bne_self_eq_false, beq_self_eq_true, Bool.not_true, cond_false, w0]
theorem Sw_markStringS_val (x : List ByteArray) (k : Int) (h0 : 0 ≤ k) (hk : (mL mTx x k).2 ≤ 1000000000000000000) (hz : zL zB x ≤ 68719476736) : Sw_markStringS x k = some (((mL mTx x k).2, ()), (mL mTx x k).1, ()) := by
  rw [Sw_markStringS_eq]
  refine mark0 mTx zB (fun y k => (mdTx y k).1) (fun v k i => Lw_markStringS_2 v k i) (fun x k => (mL_md mdTx x k).1) x k h0 hk (Nat.le_trans (zL_len _ x) hz) (fun y hy => Nat.le_trans (zL_mem _ hy) hz) (fun v k i hi hl h0 hk hz => ?_) (fun v k => by rw [Lw_markStringS_2_eq, lt_no]; rfl)
  have hk2 : k + 1 ≤ 1000000000000000000 := hk
  have t0 := Sw_markText_val (k) (by omega) (by omega)
  have w0 : IntKind.i64.wrap (k + 1) = k + 1 := wrap_up (by omega) (by omega)
  rw [Lw_markStringS_2_eq, lt_yes hi, wrap_succ (by omega)]
  simp only [cond_true, Option.bind_some, getI_ok hi, getI_set hi, List.set_set, Int.toNat_natCast, t0, w0]
  try rfl
noncomputable def mA (x : Atm) (k : Int) : Atm × Int := (((mL mI x.1 k).1, (mL mI x.1 k).2, ((mL mI x.1 k).2 + 1).tmod 3 == 0), (mL mI x.1 k).2 + 1 + 1)
theorem mdA : Md mA zA := fun x k => by
  have q0 := mL_mdI x.1 k
  have hz : zA x = zI x.1 := rfl
  unfold mA
  simp only []
  omega
theorem Sw_markAtomS_val (x : List Atm) (k : Int) (h0 : 0 ≤ k) (hk : (mL mA x k).2 ≤ 1000000000000000000) (hz : zL zA x ≤ 68719476736) : Sw_markAtomS x k = some (((mL mA x k).2, ()), (mL mA x k).1, ()) := by
  rw [Sw_markAtomS_eq]
  refine mark0 mA zA (fun y k => (mdA y k).1) (fun v k i => Lw_markAtomS_2 v k i) (fun x k => (mL_md mdA x k).1) x k h0 hk (Nat.le_trans (zL_len _ x) hz) (fun y hy => Nat.le_trans (zL_mem _ hy) hz) (fun v k i hi hl h0 hk hz => ?_) (fun v k => by rw [Lw_markAtomS_2_eq, lt_no]; rfl)
  have q0 := mL_mdI v[i].1 k
  have hk2 : (mL mI v[i].1 k).2 + 1 + 1 ≤ 1000000000000000000 := hk
  have hz2 : zI v[i].1 ≤ 68719476736 := by have hz3 : zA v[i] ≤ 68719476736 := hz; simp only [zA] at hz3; omega
  have s0 := Sw_markIntS_val v[i].1 k (by omega) (by omega) (by unfold zI at *; omega)
  have w1 : IntKind.i64.wrap ((mL mI v[i].1 k).2 + 1) = (mL mI v[i].1 k).2 + 1 := wrap_up (by omega) (by omega)
  have w2 : IntKind.i64.wrap ((mL mI v[i].1 k).2 + 1 + 1) = (mL mI v[i].1 k).2 + 1 + 1 := wrap_up (by omega) (by omega)
  rw [Lw_markAtomS_2_eq, lt_yes hi, wrap_succ (by omega)]
  simp only [cond_true, Option.bind_some, getI_ok hi, getI_set hi, List.set_set, Int.toNat_natCast, s0, w1, w2]
  try rfl
theorem Sw_heldAtomS_val (x : List Atm) (k : Int) (h0 : 0 ≤ k) (hk : (mL mA x k).2 ≤ 1000000000000000000) (hz : zL zA x ≤ 68719476736) : Sw_heldAtomS (mL mA x k).1 k = some (((mL mA x k).2, ()), ()) := by
  rw [Sw_heldAtomS_eq]
  refine held0 mA zA (fun y k => (mdA y k).1) (fun v k i => Lw_heldAtomS_2 v k i) (fun x k => (mL_md mdA x k).1) x k h0 hk (Nat.le_trans (zL_len _ x) hz) (fun y hy => Nat.le_trans (zL_mem _ hy) hz) (fun v k i hi y hy hl h0 hk hz => ?_) (fun v k => by rw [Lw_heldAtomS_2_eq, lt_no]; rfl)
  have q0 := mL_mdI y.1 k
  have hk2 : (mL mI y.1 k).2 + 1 + 1 ≤ 1000000000000000000 := hk
  have hz2 : zI y.1 ≤ 68719476736 := by have hz3 : zA y ≤ 68719476736 := hz; simp only [zA] at hz3; omega
  have s0 := Sw_heldIntS_val y.1 k (by omega) (by omega) (by unfold zI at *; omega)
  have n0 : decide ((mL mI y.1 k).2 < 0) = false := decide_eq_false (by omega)
  have w1 : IntKind.i64.wrap ((mL mI y.1 k).2 + 1) = (mL mI y.1 k).2 + 1 := wrap_up (by omega) (by omega)
  have w2 : IntKind.i64.wrap ((mL mI y.1 k).2 + 1 + 1) = (mL mI y.1 k).2 + 1 + 1 := wrap_up (by omega) (by omega)
  rw [Lw_heldAtomS_2_eq, lt_yes hi, getI_ok hi, hy, wrap_succ (by omega)]
  simp only [mA, cond_true, Option.bind_some, bne_self_eq_false, beq_self_eq_true, Bool.not_true, cond_false, s0, n0, w1, w2]
noncomputable def mR (x : Rw) (k : Int) : Rw × Int := ((mtx k, (k + 1, (mL mA x.2.2 (k + 1 + 1)).1)), (mL mA x.2.2 (k + 1 + 1)).2)
theorem mdR : Md mR zR := fun x k => by
  have q2 := mL_md mdA x.2.2 (k + 1 + 1)
  have hz : zR x = zB x.1 + zL zA x.2.2 := by simp only [zR, zC] <;> omega
  unfold mR
  simp only []
  omega
theorem Sw_markRowS_val (x : List Rw) (k : Int) (h0 : 0 ≤ k) (hk : (mL mR x k).2 ≤ 1000000000000000000) (hz : zL zR x ≤ 68719476736) : Sw_markRowS x k = some (((mL mR x k).2, ()), (mL mR x k).1, ()) := by
  rw [Sw_markRowS_eq]
  refine mark0 mR zR (fun y k => (mdR y k).1) (fun v k i => Lw_markRowS_2 v k i) (fun x k => (mL_md mdR x k).1) x k h0 hk (Nat.le_trans (zL_len _ x) hz) (fun y hy => Nat.le_trans (zL_mem _ hy) hz) (fun v k i hi hl h0 hk hz => ?_) (fun v k => by rw [Lw_markRowS_2_eq, lt_no]; rfl)
  have q2 := mL_md mdA v[i].2.2 (k + 1 + 1)
  have hk2 : (mL mA v[i].2.2 (k + 1 + 1)).2 ≤ 1000000000000000000 := hk
  have hz2 : zB v[i].1 + zL zA v[i].2.2 ≤ 68719476736 := by have hz3 : zR v[i] ≤ 68719476736 := hz; simp only [zR, zC] at hz3; omega
  have t0 := Sw_markText_val (k) (by omega) (by omega)
  have w0 : IntKind.i64.wrap (k + 1) = k + 1 := wrap_up (by omega) (by omega)
  have w1 : IntKind.i64.wrap (k + 1 + 1) = k + 1 + 1 := wrap_up (by omega) (by omega)
  have s2 := Sw_markAtomS_val v[i].2.2 (k + 1 + 1) (by omega) (by omega) (by omega)
  rw [Lw_markRowS_2_eq, lt_yes hi, wrap_succ (by omega)]
  simp only [cond_true, Option.bind_some, getI_ok hi, getI_set hi, List.set_set, Int.toNat_natCast, t0, w0, w1, s2]
  try rfl
theorem Sw_heldRowS_val (x : List Rw) (k : Int) (h0 : 0 ≤ k) (hk : (mL mR x k).2 ≤ 1000000000000000000) (hz : zL zR x ≤ 68719476736) : Sw_heldRowS (mL mR x k).1 k = some (((mL mR x k).2, ()), ()) := by
  rw [Sw_heldRowS_eq]
  refine held0 mR zR (fun y k => (mdR y k).1) (fun v k i => Lw_heldRowS_2 v k i) (fun x k => (mL_md mdR x k).1) x k h0 hk (Nat.le_trans (zL_len _ x) hz) (fun y hy => Nat.le_trans (zL_mem _ hy) hz) (fun v k i hi y hy hl h0 hk hz => ?_) (fun v k => by rw [Lw_heldRowS_2_eq, lt_no]; rfl)
  have q2 := mL_md mdA y.2.2 (k + 1 + 1)
  have hk2 : (mL mA y.2.2 (k + 1 + 1)).2 ≤ 1000000000000000000 := hk
  have hz2 : zB y.1 + zL zA y.2.2 ≤ 68719476736 := by have hz3 : zR y ≤ 68719476736 := hz; simp only [zR, zC] at hz3; omega
  have t0 := Sw_markText_val (k) (by omega) (by omega)
  have w0 : IntKind.i64.wrap (k + 1) = k + 1 := wrap_up (by omega) (by omega)
  have w1 : IntKind.i64.wrap (k + 1 + 1) = k + 1 + 1 := wrap_up (by omega) (by omega)
  have s2 := Sw_heldAtomS_val y.2.2 (k + 1 + 1) (by omega) (by omega) (by omega)
  have n2 : decide ((mL mA y.2.2 (k + 1 + 1)).2 < 0) = false := decide_eq_false (by omega)
  rw [Lw_heldRowS_2_eq, lt_yes hi, getI_ok hi, hy, wrap_succ (by omega)]
  simp only [mR, cond_true, Option.bind_some, bne_self_eq_false, beq_self_eq_true, Bool.not_true, cond_false, t0, w0, w1, s2, n2]
noncomputable def mQ (x : Rel) (k : Int) : Rel × Int := ((mtx k, k + 1, (mL mR x.2.2 (k + 1 + 1)).1), (mL mR x.2.2 (k + 1 + 1)).2)
theorem mdQ : Md mQ zQ := fun x k => by
  have q2 := mL_md mdR x.2.2 (k + 1 + 1)
  have hz : zQ x = zB x.1 + zL zR x.2.2 := rfl
  unfold mQ
  simp only []
  omega
theorem Sw_markRelationS_val (x : List Rel) (k : Int) (h0 : 0 ≤ k) (hk : (mL mQ x k).2 ≤ 1000000000000000000) (hz : zL zQ x ≤ 68719476736) : Sw_markRelationS x k = some (((mL mQ x k).2, ()), (mL mQ x k).1, ()) := by
  rw [Sw_markRelationS_eq]
  refine mark0 mQ zQ (fun y k => (mdQ y k).1) (fun v k i => Lw_markRelationS_2 v k i) (fun x k => (mL_md mdQ x k).1) x k h0 hk (Nat.le_trans (zL_len _ x) hz) (fun y hy => Nat.le_trans (zL_mem _ hy) hz) (fun v k i hi hl h0 hk hz => ?_) (fun v k => by rw [Lw_markRelationS_2_eq, lt_no]; rfl)
  have q2 := mL_md mdR v[i].2.2 (k + 1 + 1)
  have hk2 : (mL mR v[i].2.2 (k + 1 + 1)).2 ≤ 1000000000000000000 := hk
  have hz2 : zB v[i].1 + zL zR v[i].2.2 ≤ 68719476736 := by have hz3 : zQ v[i] ≤ 68719476736 := hz; simp only [zQ] at hz3; omega
  have t0 := Sw_markText_val (k) (by omega) (by omega)
  have w0 : IntKind.i64.wrap (k + 1) = k + 1 := wrap_up (by omega) (by omega)
  have w1 : IntKind.i64.wrap (k + 1 + 1) = k + 1 + 1 := wrap_up (by omega) (by omega)
  have s2 := Sw_markRowS_val v[i].2.2 (k + 1 + 1) (by omega) (by omega) (by omega)
  rw [Lw_markRelationS_2_eq, lt_yes hi, wrap_succ (by omega)]
  simp only [cond_true, Option.bind_some, getI_ok hi, getI_set hi, List.set_set, Int.toNat_natCast, t0, w0, w1, s2]
  try rfl
theorem Sw_heldRelationS_val (x : List Rel) (k : Int) (h0 : 0 ≤ k) (hk : (mL mQ x k).2 ≤ 1000000000000000000) (hz : zL zQ x ≤ 68719476736) : Sw_heldRelationS (mL mQ x k).1 k = some (((mL mQ x k).2, ()), ()) := by
  rw [Sw_heldRelationS_eq]
  refine held0 mQ zQ (fun y k => (mdQ y k).1) (fun v k i => Lw_heldRelationS_2 v k i) (fun x k => (mL_md mdQ x k).1) x k h0 hk (Nat.le_trans (zL_len _ x) hz) (fun y hy => Nat.le_trans (zL_mem _ hy) hz) (fun v k i hi y hy hl h0 hk hz => ?_) (fun v k => by rw [Lw_heldRelationS_2_eq, lt_no]; rfl)
  have q2 := mL_md mdR y.2.2 (k + 1 + 1)
  have hk2 : (mL mR y.2.2 (k + 1 + 1)).2 ≤ 1000000000000000000 := hk
  have hz2 : zB y.1 + zL zR y.2.2 ≤ 68719476736 := by have hz3 : zQ y ≤ 68719476736 := hz; simp only [zQ] at hz3; omega
  have t0 := Sw_markText_val (k) (by omega) (by omega)
  have w0 : IntKind.i64.wrap (k + 1) = k + 1 := wrap_up (by omega) (by omega)
  have w1 : IntKind.i64.wrap (k + 1 + 1) = k + 1 + 1 := wrap_up (by omega) (by omega)
  have s2 := Sw_heldRowS_val y.2.2 (k + 1 + 1) (by omega) (by omega) (by omega)
  have n2 : decide ((mL mR y.2.2 (k + 1 + 1)).2 < 0) = false := decide_eq_false (by omega)
  rw [Lw_heldRelationS_2_eq, lt_yes hi, getI_ok hi, hy, wrap_succ (by omega)]
  simp only [mQ, cond_true, Option.bind_some, bne_self_eq_false, beq_self_eq_true, Bool.not_true, cond_false, t0, w0, w1, s2, n2]
theorem mdL_RelationS : Md (mL mQ) (zL zQ) := fun x k => by
  have := mL_md mdQ x k
  omega
theorem Sw_markRelationSS_val (x : List (List Rel)) (k : Int) (h0 : 0 ≤ k) (hk : (mL (mL mQ) x k).2 ≤ 1000000000000000000) (hz : zL (zL zQ) x ≤ 68719476736) : Sw_markRelationSS x k = some (((mL (mL mQ) x k).2, ()), (mL (mL mQ) x k).1, ()) := by
  rw [Sw_markRelationSS_eq]
  refine mark0 (mL mQ) (zL zQ) (fun y k => (mdL_RelationS y k).1) (fun v k i => Lw_markRelationSS_2 v k i) (fun x k => (mL_md mdL_RelationS x k).1) x k h0 hk (Nat.le_trans (zL_len _ x) hz) (fun y hy => Nat.le_trans (zL_mem _ hy) hz) (fun v k i hi hl h0 hk hz => ?_) (fun v k => by rw [Lw_markRelationSS_2_eq, lt_no]; rfl)
  have q0 := mL_md mdQ v[i] k
  have hk2 : (mL mQ v[i] k).2 ≤ 1000000000000000000 := hk
  have s0 := Sw_markRelationS_val v[i] k (by omega) (by omega) (by have hz3 : zL zQ v[i] ≤ 68719476736 := hz; omega)
  rw [Lw_markRelationSS_2_eq, lt_yes hi, wrap_succ (by omega)]
  simp only [cond_true, Option.bind_some, getI_ok hi, getI_set hi, List.set_set, Int.toNat_natCast, s0]
  try rfl
theorem Sw_heldRelationSS_val (x : List (List Rel)) (k : Int) (h0 : 0 ≤ k) (hk : (mL (mL mQ) x k).2 ≤ 1000000000000000000) (hz : zL (zL zQ) x ≤ 68719476736) : Sw_heldRelationSS (mL (mL mQ) x k).1 k = some (((mL (mL mQ) x k).2, ()), ()) := by
  rw [Sw_heldRelationSS_eq]
  refine held0 (mL mQ) (zL zQ) (fun y k => (mdL_RelationS y k).1) (fun v k i => Lw_heldRelationSS_2 v k i) (fun x k => (mL_md mdL_RelationS x k).1) x k h0 hk (Nat.le_trans (zL_len _ x) hz) (fun y hy => Nat.le_trans (zL_mem _ hy) hz) (fun v k i hi y hy hl h0 hk hz => ?_) (fun v k => by rw [Lw_heldRelationSS_2_eq, lt_no]; rfl)
  have q0 := mL_md mdQ y k
  have hk2 : (mL mQ y k).2 ≤ 1000000000000000000 := hk
  have s0 := Sw_heldRelationS_val y k (by omega) (by omega) (by have hz3 : zL zQ y ≤ 68719476736 := hz; omega)
  have n0 : decide ((mL mQ y k).2 < 0) = false := decide_eq_false (by omega)
  rw [Lw_heldRelationSS_2_eq, lt_yes hi, getI_ok hi, hy, wrap_succ (by omega)]
  simp only [cond_true, Option.bind_some, bne_self_eq_false, beq_self_eq_true, Bool.not_true, cond_false, s0, n0]
noncomputable def mN (x : Nod) (k : Int) : Nod × Int := ((k, ((mL mI x.2.1.1 (k + 1)).1, (mL mI x.2.1.1 (k + 1)).2, ((mL mI x.2.1.1 (k + 1)).2 + 1).tmod 3 == 0), mtx ((mL mI x.2.1.1 (k + 1)).2 + 1 + 1), mtx ((mL mI x.2.1.1 (k + 1)).2 + 1 + 1 + 1), (mL mI x.2.2.2.2.1 ((mL mI x.2.1.1 (k + 1)).2 + 1 + 1 + 1 + 1)).1, (mL mI x.2.2.2.2.1 ((mL mI x.2.1.1 (k + 1)).2 + 1 + 1 + 1 + 1)).2, (mL mI x.2.2.2.2.1 ((mL mI x.2.1.1 (k + 1)).2 + 1 + 1 + 1 + 1)).2 + 1, (mL mI x.2.2.2.2.1 ((mL mI x.2.1.1 (k + 1)).2 + 1 + 1 + 1 + 1)).2 + 1 + 1), (mL mI x.2.2.2.2.1 ((mL mI x.2.1.1 (k + 1)).2 + 1 + 1 + 1 + 1)).2 + 1 + 1 + 1)
theorem mdN : Md mN zN := fun x k => by
  have q1 := mL_mdI x.2.1.1 (k + 1)
  have q6 := mL_mdI x.2.2.2.2.1 ((mL mI x.2.1.1 (k + 1)).2 + 1 + 1 + 1 + 1)
  have hz : zN x = zI x.2.1.1 + zB x.2.2.1 + zB x.2.2.2.1 + zI x.2.2.2.2.1 := by simp only [zN, zA] <;> omega
  unfold mN
  simp only []
  omega
theorem Sw_markNodeS_val (x : List Nod) (k : Int) (h0 : 0 ≤ k) (hk : (mL mN x k).2 ≤ 1000000000000000000) (hz : zL zN x ≤ 68719476736) : Sw_markNodeS x k = some (((mL mN x k).2, ()), (mL mN x k).1, ()) := by
  rw [Sw_markNodeS_eq]
  refine mark0 mN zN (fun y k => (mdN y k).1) (fun v k i => Lw_markNodeS_2 v k i) (fun x k => (mL_md mdN x k).1) x k h0 hk (Nat.le_trans (zL_len _ x) hz) (fun y hy => Nat.le_trans (zL_mem _ hy) hz) (fun v k i hi hl h0 hk hz => ?_) (fun v k => by rw [Lw_markNodeS_2_eq, lt_no]; rfl)
  have q1 := mL_mdI v[i].2.1.1 (k + 1)
  have q6 := mL_mdI v[i].2.2.2.2.1 ((mL mI v[i].2.1.1 (k + 1)).2 + 1 + 1 + 1 + 1)
  have hk2 : (mL mI v[i].2.2.2.2.1 ((mL mI v[i].2.1.1 (k + 1)).2 + 1 + 1 + 1 + 1)).2 + 1 + 1 + 1 ≤ 1000000000000000000 := hk
  have hz2 : zI v[i].2.1.1 + zB v[i].2.2.1 + zB v[i].2.2.2.1 + zI v[i].2.2.2.2.1 ≤ 68719476736 := by have hz3 : zN v[i] ≤ 68719476736 := hz; simp only [zN, zA] at hz3; omega
  have w0 : IntKind.i64.wrap (k + 1) = k + 1 := wrap_up (by omega) (by omega)
  have s1 := Sw_markIntS_val v[i].2.1.1 (k + 1) (by omega) (by omega) (by unfold zI at *; omega)
  have w2 : IntKind.i64.wrap ((mL mI v[i].2.1.1 (k + 1)).2 + 1) = (mL mI v[i].2.1.1 (k + 1)).2 + 1 := wrap_up (by omega) (by omega)
  have w3 : IntKind.i64.wrap ((mL mI v[i].2.1.1 (k + 1)).2 + 1 + 1) = (mL mI v[i].2.1.1 (k + 1)).2 + 1 + 1 := wrap_up (by omega) (by omega)
  have t4 := Sw_markText_val ((mL mI v[i].2.1.1 (k + 1)).2 + 1 + 1) (by omega) (by omega)
  have w4 : IntKind.i64.wrap ((mL mI v[i].2.1.1 (k + 1)).2 + 1 + 1 + 1) = (mL mI v[i].2.1.1 (k + 1)).2 + 1 + 1 + 1 := wrap_up (by omega) (by omega)
  have t5 := Sw_markText_val ((mL mI v[i].2.1.1 (k + 1)).2 + 1 + 1 + 1) (by omega) (by omega)
  have w5 : IntKind.i64.wrap ((mL mI v[i].2.1.1 (k + 1)).2 + 1 + 1 + 1 + 1) = (mL mI v[i].2.1.1 (k + 1)).2 + 1 + 1 + 1 + 1 := wrap_up (by omega) (by omega)
  have s6 := Sw_markIntS_val v[i].2.2.2.2.1 ((mL mI v[i].2.1.1 (k + 1)).2 + 1 + 1 + 1 + 1) (by omega) (by omega) (by unfold zI at *; omega)
  have w7 : IntKind.i64.wrap ((mL mI v[i].2.2.2.2.1 ((mL mI v[i].2.1.1 (k + 1)).2 + 1 + 1 + 1 + 1)).2 + 1) = (mL mI v[i].2.2.2.2.1 ((mL mI v[i].2.1.1 (k + 1)).2 + 1 + 1 + 1 + 1)).2 + 1 := wrap_up (by omega) (by omega)
  have w8 : IntKind.i64.wrap ((mL mI v[i].2.2.2.2.1 ((mL mI v[i].2.1.1 (k + 1)).2 + 1 + 1 + 1 + 1)).2 + 1 + 1) = (mL mI v[i].2.2.2.2.1 ((mL mI v[i].2.1.1 (k + 1)).2 + 1 + 1 + 1 + 1)).2 + 1 + 1 := wrap_up (by omega) (by omega)
  have w9 : IntKind.i64.wrap ((mL mI v[i].2.2.2.2.1 ((mL mI v[i].2.1.1 (k + 1)).2 + 1 + 1 + 1 + 1)).2 + 1 + 1 + 1) = (mL mI v[i].2.2.2.2.1 ((mL mI v[i].2.1.1 (k + 1)).2 + 1 + 1 + 1 + 1)).2 + 1 + 1 + 1 := wrap_up (by omega) (by omega)
  rw [Lw_markNodeS_2_eq, lt_yes hi, wrap_succ (by omega)]
  simp only [cond_true, Option.bind_some, getI_ok hi, getI_set hi, List.set_set, Int.toNat_natCast, w0, s1, w2, w3, t4, w4, t5, w5, s6, w7, w8, w9]
  try rfl
theorem Sw_heldNodeS_val (x : List Nod) (k : Int) (h0 : 0 ≤ k) (hk : (mL mN x k).2 ≤ 1000000000000000000) (hz : zL zN x ≤ 68719476736) : Sw_heldNodeS (mL mN x k).1 k = some (((mL mN x k).2, ()), ()) := by
  rw [Sw_heldNodeS_eq]
  refine held0 mN zN (fun y k => (mdN y k).1) (fun v k i => Lw_heldNodeS_2 v k i) (fun x k => (mL_md mdN x k).1) x k h0 hk (Nat.le_trans (zL_len _ x) hz) (fun y hy => Nat.le_trans (zL_mem _ hy) hz) (fun v k i hi y hy hl h0 hk hz => ?_) (fun v k => by rw [Lw_heldNodeS_2_eq, lt_no]; rfl)
  have q1 := mL_mdI y.2.1.1 (k + 1)
  have q6 := mL_mdI y.2.2.2.2.1 ((mL mI y.2.1.1 (k + 1)).2 + 1 + 1 + 1 + 1)
  have hk2 : (mL mI y.2.2.2.2.1 ((mL mI y.2.1.1 (k + 1)).2 + 1 + 1 + 1 + 1)).2 + 1 + 1 + 1 ≤ 1000000000000000000 := hk
  have hz2 : zI y.2.1.1 + zB y.2.2.1 + zB y.2.2.2.1 + zI y.2.2.2.2.1 ≤ 68719476736 := by have hz3 : zN y ≤ 68719476736 := hz; simp only [zN, zA] at hz3; omega
  have w0 : IntKind.i64.wrap (k + 1) = k + 1 := wrap_up (by omega) (by omega)
  have s1 := Sw_heldIntS_val y.2.1.1 (k + 1) (by omega) (by omega) (by unfold zI at *; omega)
  have n1 : decide ((mL mI y.2.1.1 (k + 1)).2 < 0) = false := decide_eq_false (by omega)
  have w2 : IntKind.i64.wrap ((mL mI y.2.1.1 (k + 1)).2 + 1) = (mL mI y.2.1.1 (k + 1)).2 + 1 := wrap_up (by omega) (by omega)
  have w3 : IntKind.i64.wrap ((mL mI y.2.1.1 (k + 1)).2 + 1 + 1) = (mL mI y.2.1.1 (k + 1)).2 + 1 + 1 := wrap_up (by omega) (by omega)
  have t4 := Sw_markText_val ((mL mI y.2.1.1 (k + 1)).2 + 1 + 1) (by omega) (by omega)
  have w4 : IntKind.i64.wrap ((mL mI y.2.1.1 (k + 1)).2 + 1 + 1 + 1) = (mL mI y.2.1.1 (k + 1)).2 + 1 + 1 + 1 := wrap_up (by omega) (by omega)
  have t5 := Sw_markText_val ((mL mI y.2.1.1 (k + 1)).2 + 1 + 1 + 1) (by omega) (by omega)
  have w5 : IntKind.i64.wrap ((mL mI y.2.1.1 (k + 1)).2 + 1 + 1 + 1 + 1) = (mL mI y.2.1.1 (k + 1)).2 + 1 + 1 + 1 + 1 := wrap_up (by omega) (by omega)
  have s6 := Sw_heldIntS_val y.2.2.2.2.1 ((mL mI y.2.1.1 (k + 1)).2 + 1 + 1 + 1 + 1) (by omega) (by omega) (by unfold zI at *; omega)
  have n6 : decide ((mL mI y.2.2.2.2.1 ((mL mI y.2.1.1 (k + 1)).2 + 1 + 1 + 1 + 1)).2 < 0) = false := decide_eq_false (by omega)
  have w7 : IntKind.i64.wrap ((mL mI y.2.2.2.2.1 ((mL mI y.2.1.1 (k + 1)).2 + 1 + 1 + 1 + 1)).2 + 1) = (mL mI y.2.2.2.2.1 ((mL mI y.2.1.1 (k + 1)).2 + 1 + 1 + 1 + 1)).2 + 1 := wrap_up (by omega) (by omega)
  have w8 : IntKind.i64.wrap ((mL mI y.2.2.2.2.1 ((mL mI y.2.1.1 (k + 1)).2 + 1 + 1 + 1 + 1)).2 + 1 + 1) = (mL mI y.2.2.2.2.1 ((mL mI y.2.1.1 (k + 1)).2 + 1 + 1 + 1 + 1)).2 + 1 + 1 := wrap_up (by omega) (by omega)
  have w9 : IntKind.i64.wrap ((mL mI y.2.2.2.2.1 ((mL mI y.2.1.1 (k + 1)).2 + 1 + 1 + 1 + 1)).2 + 1 + 1 + 1) = (mL mI y.2.2.2.2.1 ((mL mI y.2.1.1 (k + 1)).2 + 1 + 1 + 1 + 1)).2 + 1 + 1 + 1 := wrap_up (by omega) (by omega)
  rw [Lw_heldNodeS_2_eq, lt_yes hi, getI_ok hi, hy, wrap_succ (by omega)]
  simp only [mN, cond_true, Option.bind_some, bne_self_eq_false, beq_self_eq_true, Bool.not_true, cond_false, w0, s1, n1, w2, w3, t4, w4, t5, w5, s6, n6, w7, w8, w9]
theorem mdL_NodeS : Md (mL mN) (zL zN) := fun x k => by
  have := mL_md mdN x k
  omega
theorem Sw_markNodeSS_val (x : List (List Nod)) (k : Int) (h0 : 0 ≤ k) (hk : (mL (mL mN) x k).2 ≤ 1000000000000000000) (hz : zL (zL zN) x ≤ 68719476736) : Sw_markNodeSS x k = some (((mL (mL mN) x k).2, ()), (mL (mL mN) x k).1, ()) := by
  rw [Sw_markNodeSS_eq]
  refine mark0 (mL mN) (zL zN) (fun y k => (mdL_NodeS y k).1) (fun v k i => Lw_markNodeSS_2 v k i) (fun x k => (mL_md mdL_NodeS x k).1) x k h0 hk (Nat.le_trans (zL_len _ x) hz) (fun y hy => Nat.le_trans (zL_mem _ hy) hz) (fun v k i hi hl h0 hk hz => ?_) (fun v k => by rw [Lw_markNodeSS_2_eq, lt_no]; rfl)
  have q0 := mL_md mdN v[i] k
  have hk2 : (mL mN v[i] k).2 ≤ 1000000000000000000 := hk
  have s0 := Sw_markNodeS_val v[i] k (by omega) (by omega) (by have hz3 : zL zN v[i] ≤ 68719476736 := hz; omega)
  rw [Lw_markNodeSS_2_eq, lt_yes hi, wrap_succ (by omega)]
  simp only [cond_true, Option.bind_some, getI_ok hi, getI_set hi, List.set_set, Int.toNat_natCast, s0]
  try rfl
theorem Sw_heldNodeSS_val (x : List (List Nod)) (k : Int) (h0 : 0 ≤ k) (hk : (mL (mL mN) x k).2 ≤ 1000000000000000000) (hz : zL (zL zN) x ≤ 68719476736) : Sw_heldNodeSS (mL (mL mN) x k).1 k = some (((mL (mL mN) x k).2, ()), ()) := by
  rw [Sw_heldNodeSS_eq]
  refine held0 (mL mN) (zL zN) (fun y k => (mdL_NodeS y k).1) (fun v k i => Lw_heldNodeSS_2 v k i) (fun x k => (mL_md mdL_NodeS x k).1) x k h0 hk (Nat.le_trans (zL_len _ x) hz) (fun y hy => Nat.le_trans (zL_mem _ hy) hz) (fun v k i hi y hy hl h0 hk hz => ?_) (fun v k => by rw [Lw_heldNodeSS_2_eq, lt_no]; rfl)
  have q0 := mL_md mdN y k
  have hk2 : (mL mN y k).2 ≤ 1000000000000000000 := hk
  have s0 := Sw_heldNodeS_val y k (by omega) (by omega) (by have hz3 : zL zN y ≤ 68719476736 := hz; omega)
  have n0 : decide ((mL mN y k).2 < 0) = false := decide_eq_false (by omega)
  rw [Lw_heldNodeSS_2_eq, lt_yes hi, getI_ok hi, hy, wrap_succ (by omega)]
  simp only [cond_true, Option.bind_some, bne_self_eq_false, beq_self_eq_true, Bool.not_true, cond_false, s0, n0]
noncomputable def tS (x : Sto) (k : Int) : Sto × Int := (((mL (mL mN) x.1 k).1, (mL (mL mQ) x.2 ((mL (mL mN) x.1 k).2)).1), (mL (mL mQ) x.2 ((mL (mL mN) x.1 k).2)).2)
theorem tdS (x : Sto) (k : Int) : k ≤ (tS x k).2 ∧ (tS x k).2 ≤ k + 12 * zS x := by
  have q0 := mL_md mdL_NodeS x.1 k
  have q1 := mL_md mdL_RelationS x.2 ((mL (mL mN) x.1 k).2)
  have hz : zS x = zL (zL zN) x.1 + zL (zL zQ) x.2 := rfl
  unfold tS
  simp only []
  omega
theorem Sw_markStore_val (x : Sto) (k : Int) (h0 : 0 ≤ k) (hk : (tS x k).2 ≤ 1000000000000000000) (hz : zS x ≤ 68719476736) : Sw_markStore x k = some (((tS x k).2, ()), (tS x k).1, ()) := by
  have q0 := mL_md mdL_NodeS x.1 k
  have q1 := mL_md mdL_RelationS x.2 ((mL (mL mN) x.1 k).2)
  have hk2 : (mL (mL mQ) x.2 ((mL (mL mN) x.1 k).2)).2 ≤ 1000000000000000000 := hk
  have hz2 : zL (zL zN) x.1 + zL (zL zQ) x.2 ≤ 68719476736 := hz
  have s0 := Sw_markNodeSS_val x.1 k (by omega) (by omega) (by omega)
  have s1 := Sw_markRelationSS_val x.2 ((mL (mL mN) x.1 k).2) (by omega) (by omega) (by omega)
  rw [Sw_markStore_eq]
  simp only [tS, Option.bind_some, cond_false, s0, s1]
theorem Sw_heldStore_val (x : Sto) (k : Int) (h0 : 0 ≤ k) (hk : (tS x k).2 ≤ 1000000000000000000) (hz : zS x ≤ 68719476736) : Sw_heldStore (tS x k).1 k = some (((tS x k).2, ()), ()) := by
  have q0 := mL_md mdL_NodeS x.1 k
  have q1 := mL_md mdL_RelationS x.2 ((mL (mL mN) x.1 k).2)
  have hk2 : (mL (mL mQ) x.2 ((mL (mL mN) x.1 k).2)).2 ≤ 1000000000000000000 := hk
  have hz2 : zL (zL zN) x.1 + zL (zL zQ) x.2 ≤ 68719476736 := hz
  have s0 := Sw_heldNodeSS_val x.1 k (by omega) (by omega) (by omega)
  have n0 : decide ((mL (mL mN) x.1 k).2 < 0) = false := decide_eq_false (by omega)
  have s1 := Sw_heldRelationSS_val x.2 ((mL (mL mN) x.1 k).2) (by omega) (by omega) (by omega)
  have n1 : decide ((mL (mL mQ) x.2 ((mL (mL mN) x.1 k).2)).2 < 0) = false := decide_eq_false (by omega)
  rw [Sw_heldStore_eq]
  simp only [tS, Option.bind_some, cond_false, s0, n0, s1, n1]
/-! ### bounds -/
def gA (a : Atm) : Prop := a.1.length ≤ 68719476736
def gC (c : Cel) : Prop := c.2.length ≤ 68719476736 ∧ ∀ a ∈ c.2, gA a
def gR (r : Rw) : Prop := r.1.size ≤ 68719476736 ∧ gC r.2
def gL (r : Rel) : Prop := r.1.size ≤ 68719476736 ∧ r.2.2.length ≤ 68719476736 ∧ ∀ y ∈ r.2.2, gR y
/-! ### words -/
theorem getB_ok {x : ByteArray} {i : Nat} (h : i < x.data.toList.length) : getB x (i : Int) = some ((x.data.toList[i].toNat : Nat) : Int) := by
  unfold getB
  rw [if_pos (by omega)]
  have h' : i < x.size := by simpa using h
  simp only [Int.toNat_natCast]
  rw [show x[i]? = some x[i] from getElem?_pos x i h']
  simp only [Option.map_some]
  congr 3
def wordB (x : ByteArray) (a b : Int) : Bool := x.data.toList.all (fun c => !(decide (((c.toNat : Nat) : Int) < a)) && !(decide (((c.toNat : Nat) : Int) > b))) && (decide (1 ≤ (x.size : Int)) && decide ((x.size : Int) ≤ 6))
theorem size_is (x : ByteArray) : x.size = x.data.toList.length := by simp
theorem Ss_l1In_val (a b c : Int) : Ss_l1In a b c = some ((decide (b ≤ a) && decide (a ≤ c), ()), ()) := by
  rw [Ss_l1In_eq]
  by_cases h : a ≥ b
  · simp [h]
  · simp [h]
theorem Ss_l5Word_val (x : ByteArray) (a b : Int) (hl : x.size ≤ 68719476736) : Ss_l5Word x a b = some ((wordB x a b, ()), ()) := by
  rw [Ss_l5Word_eq]
  have := all_loop x.data.toList (fun c => !(decide (((c.toNat : Nat) : Int) < a)) && !(decide (((c.toNat : Nat) : Int) > b))) (some ((false, ()), ())) (some ((decide (1 ≤ (x.size : Int)) && decide ((x.size : Int) ≤ 6), ()), ())) (fun i => Ls_l5Word_2 x a b i) (by rw [← size_is]; exact hl) (fun i hi => by
    have hb : i < x.size := by rw [size_is]; exact hi
    rw [Ls_l5Word_2_eq, getB_ok hi, wrap_succ (by omega)]
    simp only [lt_yes hb, cond_true, Option.bind_some]
    cases decide (((x.data.toList[i].toNat : Nat) : Int) < a) <;> cases decide (((x.data.toList[i].toNat : Nat) : Int) > b) <;> rfl) (by rw [Ls_l5Word_2_eq, ← size_is, lt_no, Ss_l1In_val]; rfl) x.data.toList.length 0 (by omega)
  simp only [List.drop_zero, Int.natCast_zero] at this
  rw [show Ls_l5Word_2 x a b 0 = _ from this]
  unfold wordB
  cases x.data.toList.all _ <;> rfl
theorem Si_isWord_val (x : ByteArray) (a b : Int) : Si_isWord x a b = some ((wordB x a b, ()), ()) := by
  rw [Si_isWord_eq]
  unfold wordB
  by_cases h1 : (x.size : Int) < 1
  · have : ¬ (1 ≤ (x.size : Int)) := by omega
    simp [h1, this]
  · by_cases h2 : (x.size : Int) > 6
    · have : ¬ ((x.size : Int) ≤ 6) := by omega
      simp only [h1, h2, decide_false, decide_true, cond_false, cond_true, this, Bool.and_false]
    · have e1 : 1 ≤ (x.size : Int) := by omega
      have e2 : (x.size : Int) ≤ 6 := by omega
      simp only [h1, h2, decide_false, cond_false, e1, e2, decide_true, Bool.and_self, Bool.and_true]
      have := all_loop x.data.toList (fun c => !(decide (((c.toNat : Nat) : Int) < a)) && !(decide (((c.toNat : Nat) : Int) > b))) (some ((false, ()), ())) (some ((true, ()), ())) (fun i => Li_isWord_4 x a b i) (by rw [← size_is]; omega) (fun i hi => by
        have hb : i < x.size := by rw [size_is]; exact hi
        rw [Li_isWord_4_eq, getB_ok hi, wrap_succ (by omega)]
        simp only [lt_yes hb, cond_true, Option.bind_some]
        cases decide (((x.data.toList[i].toNat : Nat) : Int) < a) <;> cases decide (((x.data.toList[i].toNat : Nat) : Int) > b) <;> rfl) (by rw [Li_isWord_4_eq, ← size_is, lt_no]; rfl) x.data.toList.length 0 (by omega)
      simp only [List.drop_zero, Int.natCast_zero] at this
      rw [show Li_isWord_4 x a b 0 = _ from this]
      cases x.data.toList.all _ <;> rfl
theorem Si_isName_val (x : ByteArray) : Si_isName x = some ((wordB x 65 90, ()), ()) := by
  rw [Si_isName_eq, Si_isWord_val]; rfl
theorem Si_isLabel_val (x : ByteArray) : Si_isLabel x = some ((wordB x 97 122, ()), ()) := by
  rw [Si_isLabel_eq, Si_isWord_val]; rfl


/-! ### numbers -/
def numB (a : Int) : Bool := decide (-400000000 ≤ a) && decide (a ≤ 400000000)
theorem Ss_IsNumber_val (a : Int) : Ss_IsNumber a = some ((numB a, ()), ()) := by
  rw [Ss_IsNumber_eq, Ss_l1In_val, Option.bind_some]; rfl
theorem Si_IsNumber_val (a : Int) : Si_IsNumber a = some ((numB a, ()), ()) := by
  rw [Si_IsNumber_eq]
  unfold numB
  by_cases h : a ≥ -400000000
  · simp [h]
  · simp [h]
theorem Si_absolute_val {a : Int} (h : numB a = true) : Si_absolute a = some (((a.natAbs : Int), ()), ()) := by
  simp only [numB, Bool.and_eq_true, decide_eq_true_eq] at h
  rw [Si_absolute_eq]
  by_cases h0 : a < 0
  · simp only [h0, decide_true, cond_true]
    rw [wrap_id (by omega) (by omega)]
    congr 3; omega
  · simp only [h0, decide_false, cond_false]
    congr 3; omega
theorem Si_absolute_nat (a : Nat) : Si_absolute (a : Int) = some (((a : Int), ()), ()) := by
  rw [Si_absolute_eq]
  have : decide ((a : Int) < 0) = false := by simp
  rw [this, cond_false]
theorem Ss_l1Abs_val {a : Int} (h : numB a = true) : Ss_l1Abs a = some (((a.natAbs : Int), ()), ()) := by
  simp only [numB, Bool.and_eq_true, decide_eq_true_eq] at h
  rw [Ss_l1Abs_eq]
  rw [wrap_id (by omega) (by omega)]
  simp only [cond_true]
  congr 3
  split <;> omega
theorem L114_val : ∀ (n : Nat) (a b : Int), b.natAbs ≤ n → 0 ≤ a → 0 ≤ b → Li_commonDivisor_2 a b = some ((((Nat.gcd a.natAbs b.natAbs : Nat) : Int), ()), ())
  | n, a, b, hn, ha, hb => by
    rw [Li_commonDivisor_2_eq]
    by_cases h0 : b = 0
    · subst h0
      simp only [bne_self_eq_false, cond_false]
      simp
      omega
    · have : (b != 0) = true := by simpa using h0
      rw [this, cond_true, cond_true]
      have hlt : a.natAbs % b.natAbs < b.natAbs := Nat.mod_lt _ (by omega)
      have hm := Int.natAbs_tmod a b
      cases n with
      | zero => omega
      | succ n =>
        rw [L114_val n b (Int.tmod a b) (by omega) hb (Int.tmod_nonneg _ ha), hm]
        congr 4
        rw [Nat.gcd_comm a.natAbs, Nat.gcd_rec b.natAbs a.natAbs, Nat.gcd_comm]
  termination_by n => n
theorem Si_commonDivisor_val (a : Nat) {b : Int} (hb : numB b = true) : Si_commonDivisor (a : Int) b = some ((((Nat.gcd a b.natAbs : Nat) : Int), ()), ()) := by
  rw [Si_commonDivisor_eq, Si_absolute_nat, Si_absolute_val hb]
  simp only [Option.bind_some]
  rw [L114_val _ _ _ (Nat.le_refl _) (by omega) (by omega)]
  simp
/-- The greatest common divisor of a number and a row. -/
def gl (x : List Int) (g : Nat) : Nat := x.foldl (fun g y => Nat.gcd g y.natAbs) g
theorem gl_gcd : ∀ (x : List Int) (g h : Nat), gl x (Nat.gcd g h) = Nat.gcd (gl x g) h
  | [], _, _ => rfl
  | y :: x, g, h => by
    change gl x (Nat.gcd (Nat.gcd g h) y.natAbs) = Nat.gcd (gl x (Nat.gcd g y.natAbs)) h
    rw [show Nat.gcd (Nat.gcd g h) y.natAbs = Nat.gcd (Nat.gcd g y.natAbs) h by rw [Nat.gcd_assoc, Nat.gcd_comm h, ← Nat.gcd_assoc], gl_gcd x]
theorem gl_is (x : List Int) (k : Nat) : gl x k = Nat.gcd (gl x 0) k := by
  rw [← gl_gcd, Nat.gcd_zero_left]
theorem Ls_l2Gcd_6_val (x : List Int) (i : Int) : ∀ (n : Nat) (a b : Int), b.natAbs ≤ n → 0 ≤ a → 0 ≤ b → Ls_l2Gcd_6 x a i b = Ls_l2Gcd_3 x ((Nat.gcd a.natAbs b.natAbs : Nat) : Int) (IntKind.i64.wrap (i + 1))
  | n, a, b, hn, ha, hb => by
    rw [Ls_l2Gcd_6_eq]
    by_cases h0 : b = 0
    · subst h0
      simp only [bne_self_eq_false, cond_false]
      congr 1
      simp
      omega
    · have : (b != 0) = true := by simpa using h0
      rw [this, cond_true, cond_true]
      have hlt : a.natAbs % b.natAbs < b.natAbs := Nat.mod_lt _ (by omega)
      have hm := Int.natAbs_tmod a b
      cases n with
      | zero => omega
      | succ n =>
        rw [Ls_l2Gcd_6_val x i n b (Int.tmod a b) (by omega) hb (Int.tmod_nonneg _ ha), hm]
        congr 2
        rw [Nat.gcd_comm a.natAbs, Nat.gcd_rec b.natAbs a.natAbs, Nat.gcd_comm]
  termination_by n => n
theorem Ls_l2Gcd_3_val (x : List Int) (hl : x.length ≤ 68719476736) (hx : ∀ y ∈ x, numB y = true) : ∀ (n i g : Nat), n + i = x.length → Ls_l2Gcd_3 x (g : Int) (i : Int) = some ((((gl (x.drop i) g : Nat) : Int), ()), ())
  | 0, i, g, hn => by
    obtain rfl : i = x.length := by omega
    rw [Ls_l2Gcd_3_eq, lt_no, List.drop_eq_nil_of_le (by omega)]
    rfl
  | n + 1, i, g, hn => by
    have hi : i < x.length := by omega
    rw [Ls_l2Gcd_3_eq, lt_yes hi, getI_ok hi, cond_true, Option.bind_some, Ss_l1Abs_val (hx _ (List.getElem_mem hi)), Option.bind_some, Ls_l2Gcd_6_val x i _ _ _ (Nat.le_refl _) (Int.natCast_nonneg _) (Int.natCast_nonneg _), wrap_succ (by omega), Ls_l2Gcd_3_val x hl hx n (i + 1) _ (by omega), List.drop_eq_getElem_cons hi]
    simp only [Int.natAbs_natCast]
    rfl
theorem Ss_l2Gcd_val (x : List Int) (k : Int) (hl : x.length ≤ 68719476736) (hx : ∀ y ∈ x, numB y = true) (hk : numB k = true) : Ss_l2Gcd x k = some ((((gl x k.natAbs : Nat) : Int), ()), ()) := by
  rw [Ss_l2Gcd_eq, Ss_l1Abs_val hk, Option.bind_some]
  have := Ls_l2Gcd_3_val x hl hx x.length 0 k.natAbs (by omega)
  simpa using this
theorem Li_divisorOf_3_val (x : List Int) (hl : x.length ≤ 68719476736) (hx : ∀ y ∈ x, numB y = true) : ∀ (n i g : Nat), n + i = x.length → Li_divisorOf_3 x (g : Int) x (x.length : Int) (i : Int) = some ((((gl (x.drop i) g : Nat) : Int), ()), ())
  | 0, i, g, hn => by
    obtain rfl : i = x.length := by omega
    rw [Li_divisorOf_3_eq, lt_no, List.drop_eq_nil_of_le (by omega)]
    rfl
  | n + 1, i, g, hn => by
    have hi : i < x.length := by omega
    rw [Li_divisorOf_3_eq, lt_yes hi, getI_ok hi, cond_true, Option.bind_some, Si_commonDivisor_val _ (hx _ (List.getElem_mem hi)), Option.bind_some, wrap_succ (by omega), Li_divisorOf_3_val x hl hx n (i + 1) _ (by omega), List.drop_eq_getElem_cons hi]
    rfl
theorem Si_divisorOf_val (x : List Int) (hl : x.length ≤ 68719476736) (hx : ∀ y ∈ x, numB y = true) : Si_divisorOf x = some ((((gl x 0 : Nat) : Int), ()), ()) := by
  rw [Si_divisorOf_eq]
  have := Li_divisorOf_3_val x hl hx x.length 0 0 (by omega)
  simpa using this

/-! ### atoms -/
def atomB (a : Atm) : Bool := !(decide ((a.1.length : Int) > 4)) && (numB a.2.1 && (a.1.all numB && decide (((gl a.1 a.2.1.natAbs : Nat) : Int) ≤ 1)))
theorem Ss_IsAtom_val (a : Atm) : Ss_IsAtom a = some ((atomB a, ()), ()) := by
  rw [Ss_IsAtom_eq, Ss_IsNumber_val]
  unfold atomB
  cases h : decide ((a.1.length : Int) > 4) with
  | true => rfl
  | false =>
    have hl : a.1.length ≤ 68719476736 := by simp at h; omega
    simp only [cond_false, Option.bind_some, Bool.not_false, Bool.true_and]
    cases hk : numB a.2.1 with
    | false => rfl
    | true =>
      simp only [Bool.not_true, cond_false, Bool.true_and]
      have := all_loop a.1 numB (some ((false, ()), ())) (Ls_IsAtom_4 a (a.1.length : Int)) (fun i => Ls_IsAtom_4 a i) hl (fun i hi => by
        rw [Ls_IsAtom_4_eq, getI_ok hi, wrap_succ (by omega)]
        simp only [lt_yes hi, cond_true, Option.bind_some, Ss_IsNumber_val]
        cases numB a.1[i] <;> rfl) rfl a.1.length 0 (by omega)
      simp only [List.drop_zero, Int.natCast_zero] at this
      rw [show Ls_IsAtom_4 a 0 = _ from this]
      cases ha : a.1.all numB with
      | false => rfl
      | true =>
        rw [cond_true, Ls_IsAtom_4_eq, lt_no, cond_false, Ss_l2Gcd_val a.1 _ hl (List.all_eq_true.1 ha) hk]
        rfl
theorem Si_IsAtom_val (a : Atm) : Si_IsAtom a = some ((atomB a, ()), ()) := by
  rw [Si_IsAtom_eq, Si_IsNumber_val]
  unfold atomB
  cases h : decide ((a.1.length : Int) > 4) with
  | true => rfl
  | false =>
    have hl : a.1.length ≤ 68719476736 := by simp at h; omega
    simp only [cond_false, Option.bind_some, Bool.not_false, Bool.true_and]
    cases hk : numB a.2.1 with
    | false => rfl
    | true =>
      simp only [Bool.not_true, cond_false, Bool.true_and]
      have := all_loop a.1 numB (some ((false, ()), ())) (Li_IsAtom_4 a a.1 (a.1.length : Int) (a.1.length : Int)) (fun i => Li_IsAtom_4 a a.1 (a.1.length : Int) i) hl (fun i hi => by
        rw [Li_IsAtom_4_eq, getI_ok hi, wrap_succ (by omega)]
        simp only [lt_yes hi, cond_true, Option.bind_some, Si_IsNumber_val]
        cases numB a.1[i] <;> rfl) rfl a.1.length 0 (by omega)
      simp only [List.drop_zero, Int.natCast_zero] at this
      rw [show Li_IsAtom_4 a a.1 (a.1.length : Int) 0 = _ from this]
      cases ha : a.1.all numB with
      | false => rfl
      | true =>
        rw [cond_true, Li_IsAtom_4_eq, lt_no, cond_false, Si_divisorOf_val a.1 hl (List.all_eq_true.1 ha), Option.bind_some, Si_commonDivisor_val _ hk, Option.bind_some, ← gl_is]
        rfl

/-! ### cells -/
def cellB (c : Cel) : Bool := c.2.all (fun a => atomB a && !((a.1.length : Int) != c.1)) && (decide (0 ≤ c.1) && decide (c.1 ≤ 4) && decide ((c.2.length : Int) ≤ 16))
theorem Ss_IsCell_val (c : Cel) (hl : c.2.length ≤ 68719476736) : Ss_IsCell c = some ((cellB c, ()), ()) := by
  rw [Ss_IsCell_eq]
  have := all_loop c.2 (fun a => atomB a && !((a.1.length : Int) != c.1)) (some ((false, ()), ())) (Ls_IsCell_2 c (c.2.length : Int)) (fun i => Ls_IsCell_2 c i) hl (fun i hi => by
    rw [Ls_IsCell_2_eq, getI_ok hi, wrap_succ (by omega)]
    simp only [lt_yes hi, cond_true, Option.bind_some, Ss_IsAtom_val]
    cases atomB c.2[i] <;> cases ((c.2[i].1.length : Int) != c.1) <;> rfl) rfl c.2.length 0 (by omega)
  simp only [List.drop_zero, Int.natCast_zero] at this
  rw [show Ls_IsCell_2 c 0 = _ from this, Ls_IsCell_2_eq, lt_no, Ss_l1In_val]
  unfold cellB
  cases c.2.all _ <;> cases (decide (0 ≤ c.1) && decide (c.1 ≤ 4)) <;> rfl
theorem Si_IsCell_val (c : Cel) : Si_IsCell c = some ((cellB c, ()), ()) := by
  rw [Si_IsCell_eq]
  unfold cellB
  by_cases h1 : c.1 < 0
  · have : ¬ (0 ≤ c.1) := by omega
    simp [h1, this]
  by_cases h2 : c.1 > 4
  · have : ¬ (c.1 ≤ 4) := by omega
    simp [h1, h2, this]
  by_cases h3 : (c.2.length : Int) > 16
  · have : ¬ ((c.2.length : Int) ≤ 16) := by omega
    simp only [h1, h2, h3, this, decide_false, decide_true, cond_false, cond_true, Bool.and_false]
  · have e1 : 0 ≤ c.1 := by omega
    have e2 : c.1 ≤ 4 := by omega
    have e3 : (c.2.length : Int) ≤ 16 := by omega
    simp only [h1, h2, h3, e1, e2, e3, decide_false, decide_true, cond_false, Bool.and_self, Bool.and_true]
    have := all_loop c.2 (fun a => atomB a && !((a.1.length : Int) != c.1)) (some ((false, ()), ())) (some ((true, ()), ())) (fun i => Li_IsCell_4 c c.2 (c.2.length : Int) i) (by omega) (fun i hi => by
      rw [Li_IsCell_4_eq, getI_ok hi, wrap_succ (by omega)]
      simp only [lt_yes hi, cond_true, Option.bind_some, Si_IsAtom_val]
      cases atomB c.2[i] <;> cases ((c.2[i].1.length : Int) != c.1) <;> rfl) (by rw [Li_IsCell_4_eq, lt_no]; rfl) c.2.length 0 (by omega)
    simp only [List.drop_zero, Int.natCast_zero] at this
    rw [show Li_IsCell_4 c c.2 (c.2.length : Int) 0 = _ from this]
    cases c.2.all _ <;> rfl

/-! ### relations -/
def rowB (d : Int) (r : Rw) : Bool := wordB r.1 97 122 && (cellB r.2 && !(r.2.1 != d))
def relB (r : Rel) : Bool := wordB r.1 65 90 && (decide (0 ≤ r.2.1) && decide (r.2.1 ≤ 4) && (decide ((r.2.2.length : Int) ≤ 8) && r.2.2.all (rowB r.2.1)))
theorem Ss_IsRelation_val (r : Rel) (h : gL r) : Ss_IsRelation r = some ((relB r, ()), ()) := by
  obtain ⟨h0, hl, hg⟩ := h
  rw [Ss_IsRelation_eq]
  have := all_loop r.2.2 (rowB r.2.1) (some ((false, ()), ())) (Ls_IsRelation_2 r (r.2.2.length : Int)) (fun i => Ls_IsRelation_2 r i) hl (fun i hi => by
    have hgi := hg _ (List.getElem_mem hi)
    rw [Ls_IsRelation_2_eq, getI_ok hi, wrap_succ (by omega)]
    simp only [lt_yes hi, cond_true, Option.bind_some, Ss_l5Word_val _ _ _ hgi.1, Ss_IsCell_val _ hgi.2.1]
    unfold rowB
    cases wordB r.2.2[i].1 97 122 <;> cases cellB r.2.2[i].2 <;> cases (r.2.2[i].2.1 != r.2.1) <;> rfl) rfl r.2.2.length 0 (by omega)
  simp only [List.drop_zero, Int.natCast_zero] at this
  rw [show Ls_IsRelation_2 r 0 = _ from this, Ls_IsRelation_2_eq, lt_no, Ss_l1In_val, Ss_l5Word_val _ _ _ h0]
  unfold relB
  cases r.2.2.all _ <;> cases wordB r.1 65 90 <;> cases (decide (0 ≤ r.2.1) && decide (r.2.1 ≤ 4)) <;> cases decide ((r.2.2.length : Int) ≤ 8) <;> rfl
theorem Si_IsRelation_val (r : Rel) : Si_IsRelation r = some ((relB r, ()), ()) := by
  rw [Si_IsRelation_eq, Si_isName_val]
  unfold relB
  cases wordB r.1 65 90 with
  | false => rfl
  | true =>
    simp only [Option.bind_some, Bool.not_true, cond_false, Bool.true_and]
    by_cases h1 : r.2.1 < 0
    · have : ¬ (0 ≤ r.2.1) := by omega
      simp [h1, this]
    by_cases h2 : r.2.1 > 4
    · have : ¬ (r.2.1 ≤ 4) := by omega
      simp [h1, h2, this]
    by_cases h3 : (r.2.2.length : Int) > 8
    · have : ¬ ((r.2.2.length : Int) ≤ 8) := by omega
      simp only [h1, h2, h3, this, decide_false, decide_true, cond_false, cond_true, Bool.and_false, Bool.false_and]
    · have e1 : 0 ≤ r.2.1 := by omega
      have e2 : r.2.1 ≤ 4 := by omega
      have e3 : (r.2.2.length : Int) ≤ 8 := by omega
      simp only [h1, h2, h3, e1, e2, e3, decide_false, decide_true, cond_false, Bool.and_self, Bool.true_and]
      have := all_loop r.2.2 (rowB r.2.1) (some ((false, ()), ())) (some ((true, ()), ())) (fun i => Li_IsRelation_4 r r.2.2 (r.2.2.length : Int) i) (by omega) (fun i hi => by
        rw [Li_IsRelation_4_eq, getI_ok hi, wrap_succ (by omega)]
        simp only [lt_yes hi, cond_true, Option.bind_some, Si_isLabel_val, Si_IsCell_val]
        unfold rowB
        cases wordB r.2.2[i].1 97 122 <;> cases cellB r.2.2[i].2 <;> cases (r.2.2[i].2.1 != r.2.1) <;> rfl) (by rw [Li_IsRelation_4_eq, lt_no]; rfl) r.2.2.length 0 (by omega)
      simp only [List.drop_zero, Int.natCast_zero] at this
      rw [show Li_IsRelation_4 r r.2.2 (r.2.2.length : Int) 0 = _ from this]
      cases r.2.2.all _ <;> rfl

/-! ### the relations together -/
def named (n : ByteArray) (r : Rel) : Bool := r.1.toList == n.toList
theorem Ss_FindRelation_val (x : List Rel) (n : ByteArray) (hl : x.length ≤ 68719476736) : Ss_FindRelation x n = some ((findB (named n) x, ()), ()) := by
  rw [Ss_FindRelation_eq]
  exact find_loop x (named n) (fun i => some ((i, ()), ())) (fun i => Ls_FindRelation_2 x n i) (fun i hi => by
    rw [Ls_FindRelation_2_eq, getI_ok hi, wrap_succ (by omega)]
    simp only [lt_yes hi, cond_true, Option.bind_some]
    rfl) (by rw [Ls_FindRelation_2_eq, lt_no]; rfl) x.length 0 (by omega) (fun j _ h => by omega)
theorem Si_FindRelation_val (x : List Rel) (n : ByteArray) (hl : x.length ≤ 68719476736) : Si_FindRelation x n = some ((findB (named n) x, ()), ()) := by
  rw [Si_FindRelation_eq]
  exact find_loop x (named n) (fun i => some ((i, ()), ())) (fun i => Li_FindRelation_2 x n x (x.length : Int) i) (fun i hi => by
    rw [Li_FindRelation_2_eq, getI_ok hi, wrap_succ (by omega)]
    simp only [lt_yes hi, cond_true, Option.bind_some]
    rfl) (by rw [Li_FindRelation_2_eq, lt_no]; rfl) x.length 0 (by omega) (fun j _ h => by omega)
theorem findB_take {α : Type} (p : α → Bool) (x : List α) (i : Nat) (hi : i < x.length) (hp : p x[i] = true) : decide (findB p (x.take i) ≥ 0) = (findB p x != (i : Int)) := by
  have h1 : x.findIdx p ≤ i := Nat.le_of_not_lt fun h => by
    have := List.not_of_lt_findIdx h
    rw [hp] at this
    cases this
  have h2 : (x.take i).findIdx p = min i (x.findIdx p) := List.findIdx_take
  have h3 : (x.take i).length = i := by simp; omega
  unfold findB
  rw [h2, h3, if_pos (by omega : x.findIdx p < x.length)]
  by_cases h : x.findIdx p = i
  · rw [if_neg (by omega), h]
    simp
  · rw [if_pos (by omega)]
    have e1 : ((x.findIdx p : Nat) : Int) ≠ (i : Int) := by omega
    have e2 : ((min i (x.findIdx p) : Nat) : Int) ≥ 0 := by omega
    simp [e1, e2]
def allN (p : Nat → Bool) : Nat → Nat → Bool
  | 0, _ => true
  | n + 1, i => p i && allN p n (i + 1)
theorem idx_loop {R : Type} (l : Nat) (p : Nat → Bool) (F E : Option R) (f : Int → Option R)
    (h1 : ∀ (i : Nat), i < l → f (i : Int) = bif p i then f ((i + 1 : Nat) : Int) else F) (h2 : f (l : Int) = E) :
    ∀ (n i : Nat), n + i = l → f (i : Int) = bif allN p n i then E else F
  | 0, i, hn => by
    obtain rfl : i = l := by omega
    rw [h2]; rfl
  | n + 1, i, hn => by
    rw [h1 i (by omega), idx_loop l p F E f h1 h2 n (i + 1) (by omega)]
    cases h : p i <;> simp [allN, h]
def dbP (x : List Rel) (i : Nat) : Bool := match x[i]? with
  | some r => relB r && !(decide (findB (named r.1) (x.take i) ≥ 0))
  | none => true
def dbB (x : List Rel) : Bool := allN (dbP x) x.length 0 && decide ((x.length : Int) ≤ 6)
theorem Ss_IsDatabase_val (x : List Rel) (h : x.length ≤ 68719476736 ∧ ∀ a ∈ x, gL a) : Ss_IsDatabase x = some ((dbB x, ()), ()) := by
  obtain ⟨hl, hg⟩ := h
  rw [Ss_IsDatabase_eq]
  have := idx_loop x.length (dbP x) (some ((false, ()), ())) (Ls_IsDatabase_2 x (x.length : Int)) (fun i => Ls_IsDatabase_2 x i) (fun i hi => by
    rw [Ls_IsDatabase_2_eq, getI_ok hi, wrap_succ (by omega)]
    have e : (decide ((0 : Int) ≤ (i : Int)) && decide ((i : Int) ≤ (x.length : Int))) = true := by simp; omega
    have e2 : Ss_FindRelation (List.drop (Int.toNat 0) (List.take ((i : Int)).toNat x)) x[i].1 = some ((findB (named x[i].1) (x.take i), ()), ()) := by
      have : List.drop (Int.toNat 0) (List.take ((i : Int)).toNat x) = x.take i := by simp
      rw [this]
      exact Ss_FindRelation_val _ _ (by simp; omega)
    have e0 : (decide (0 ≤ 0) && decide ((0 : Int) ≤ (i : Int)) && decide ((i : Int) ≤ (x.length : Int))) = true := by simp; omega
    simp only [lt_yes hi, cond_true, Option.bind_some, Ss_IsRelation_val _ (hg _ (List.getElem_mem hi)), e2]
    rw [e0]
    unfold dbP
    rw [List.getElem?_eq_getElem hi]
    simp only []
    cases relB x[i] <;> cases decide (findB (named x[i].1) (x.take i) ≥ 0) <;> rfl) rfl x.length 0 (by omega)
  simp only [Int.natCast_zero] at this
  rw [show Ls_IsDatabase_2 x 0 = _ from this, Ls_IsDatabase_2_eq, lt_no]
  unfold dbB
  cases allN (dbP x) x.length 0 <;> rfl
theorem Si_IsDatabase_val (x : List Rel) : Si_IsDatabase x = some ((dbB x, ()), ()) := by
  rw [Si_IsDatabase_eq]
  unfold dbB
  by_cases h : (x.length : Int) > 6
  · have : ¬ ((x.length : Int) ≤ 6) := by omega
    simp only [h, this, decide_true, decide_false, cond_true, Bool.and_false]
  · have e : (x.length : Int) ≤ 6 := by omega
    simp only [h, e, decide_true, decide_false, cond_false, Bool.and_true]
    have := idx_loop x.length (dbP x) (some ((false, ()), ())) (some ((true, ()), ())) (fun i => Li_IsDatabase_4 x x (x.length : Int) i) (fun i hi => by
      rw [Li_IsDatabase_4_eq, getI_ok hi, wrap_succ (by omega)]
      simp only [lt_yes hi, cond_true, Option.bind_some, Si_IsRelation_val, Si_FindRelation_val _ _ (show x.length ≤ 68719476736 by omega)]
      unfold dbP
      rw [List.getElem?_eq_getElem hi]
      simp only []
      rw [findB_take _ x i hi (by simp [named])]
      cases relB x[i] <;> cases (findB (named x[i].1) x != (i : Int)) <;> rfl) (by rw [Li_IsDatabase_4_eq, lt_no]; rfl) x.length 0 (by omega)
    simp only [Int.natCast_zero] at this
    rw [show Li_IsDatabase_4 x x (x.length : Int) 0 = _ from this]
    cases allN (dbP x) x.length 0 <;> rfl

/-! ### formulas -/
/-! ### lists of nodes: what waits is a stack, the last one first -/
/-! ### bounds from counts -/
theorem gA_of {a : Atm} (h : zA a ≤ 68719476736) : gA a := h
theorem gC_of {c : Cel} (h : zC c ≤ 68719476736) : gC c := ⟨Nat.le_trans (zL_len _ _) h, fun a ha => gA_of (Nat.le_trans (zL_mem _ ha) h)⟩
theorem gR_of {r : Rw} (h : zR r ≤ 68719476736) : gR r := by
  have hz : zR r = zB r.1 + zC r.2 := rfl
  exact ⟨by unfold zB at hz; omega, gC_of (by omega)⟩
theorem gL_of {r : Rel} (h : zQ r ≤ 68719476736) : gL r := by
  have hz : zQ r = zB r.1 + zL zR r.2.2 := rfl
  exact ⟨by unfold zB at hz; omega, Nat.le_trans (zL_len _ _) (Nat.le_trans (Nat.le_add_left _ _) (hz ▸ h)), fun a ha => gR_of (Nat.le_trans (zL_mem _ ha) (by omega))⟩
theorem gD_of {x : List Rel} (h : zL zQ x ≤ 68719476736) : x.length ≤ 68719476736 ∧ ∀ a ∈ x, gL a := ⟨Nat.le_trans (zL_len _ _) h, fun a ha => gL_of (Nat.le_trans (zL_mem _ ha) h)⟩
/-! ### formulas without negations -/
/-! ### views -/
/-! ### free variables -/
/-! ### the reference -/
/-! ### free variables: the whole list -/
/-! ### the program -/
/-! ### a new store -/
def mkDb (ns : List ByteArray) (ds : List Int) : List Rel := List.zipWith (fun n d => (n, d, [])) ns ds
theorem mkDb_len {ns : List ByteArray} {ds : List Int} (h : ns.length = ds.length) : (mkDb ns ds).length = ns.length := by
  unfold mkDb; rw [List.length_zipWith]; omega
theorem mkDb_take {ns : List ByteArray} {ds : List Int} {i : Nat} (h : ns.length = ds.length) (hi : i < ns.length) : (mkDb ns ds).take (i + 1) = (mkDb ns ds).take i ++ [(ns[i], ds[i]'(by omega), [])] := by
  rw [List.take_add_one]
  have : (mkDb ns ds)[i]? = some (ns[i], ds[i]'(by omega), []) := by
    unfold mkDb
    rw [List.getElem?_zipWith]
    simp [List.getElem?_eq_getElem, hi, show i < ds.length by omega]
  rw [this]; rfl
theorem zQ_mkDb : ∀ (ns : List ByteArray) (ds : List Int), zL zQ (mkDb ns ds) ≤ zL zB ns
  | [], ds => by simp [mkDb, zL]
  | n :: ns, [] => by simp [mkDb, zL]
  | n :: ns, d :: ds => by
    have := zQ_mkDb ns ds
    have e1 : zL zQ (mkDb (n :: ns) (d :: ds)) = 1 + zQ (n, d, []) + zL zQ (mkDb ns ds) := by simp only [mkDb, List.zipWith_cons_cons, zL, List.length_cons, List.map_cons, List.sum_cons]; omega
    have e2 : zL zB (n :: ns) = 1 + zB n + zL zB ns := by simp only [zL, List.length_cons, List.map_cons, List.sum_cons]; omega
    have e3 : zQ (n, d, []) = zB n := by simp [zQ, zL]
    omega
def newS (ns : List ByteArray) (ds : List Int) : Sto × Bool := bif (ns.length : Int) == (ds.length : Int) then (bif dbB (mkDb ns ds) then (([], [mkDb ns ds]), true) else (([], []), false)) else (([], []), false)
theorem dbB_nil : dbB [] = true := by decide
theorem Ls_NewStore_3_val (ns : List ByteArray) (ds : List Int) (st : Sto) (h : ns.length = ds.length) (hz : zL zB ns ≤ 68719476736) : ∀ (n i : Nat), n + i = ns.length → Ls_NewStore_3 ns ds st ((mkDb ns ds).take i) (i : Int) = some (((newS ns ds).1, (newS ns ds).2, ()), ())
  | 0, i, hn => by
    have hl : ns.length ≤ 68719476736 := Nat.le_trans (zL_len _ _) hz
    obtain rfl : i = ns.length := by omega
    have e : ((ns.length : Int) == (ds.length : Int)) = true := by simp [h]
    rw [Ls_NewStore_3_eq, lt_no, List.take_of_length_le (by rw [mkDb_len h]; omega), Ss_IsDatabase_val _ (gD_of (Nat.le_trans (zQ_mkDb ns ds) hz))]
    unfold newS
    simp only [bne, e, Option.bind_some]
    cases dbB (mkDb ns ds) <;> rfl
  | n + 1, i, hn => by
    have hl : ns.length ≤ 68719476736 := Nat.le_trans (zL_len _ _) hz
    have hi : i < ns.length := by omega
    have e : ((ns.length : Int) == (ds.length : Int)) = true := by simp [h]
    have hlen : ((mkDb ns ds).take i).length = i := by rw [List.length_take, mkDb_len h]; omega
    have e8 : decide ((((mkDb ns ds).take i).length + 1) * 48 ≤ 140737488355328) = true := by rw [hlen]; simp; omega
    rw [Ls_NewStore_3_eq, lt_yes hi, getI_ok hi, getI_ok (show i < ds.length by omega), wrap_succ (by omega), e, e8]
    simp only [cond_true, Option.bind_some]
    rw [← mkDb_take h hi]
    exact Ls_NewStore_3_val ns ds st h hz n (i + 1) (by omega)
theorem Ss_NewStore_val (ns : List ByteArray) (ds : List Int) (hz : zL zB ns ≤ 68719476736) : Ss_NewStore ns ds = some (((newS ns ds).1, (newS ns ds).2, ()), ()) := by
  rw [Ss_NewStore_eq]
  by_cases h : ns.length = ds.length
  · have := Ls_NewStore_3_val ns ds ([], []) h hz ns.length 0 (by omega)
    rw [List.take_zero] at this
    exact this
  · have e : ((ns.length : Int) == (ds.length : Int)) = false := by simp; omega
    rw [Ls_NewStore_3_eq, e, Ss_IsDatabase_val [] ⟨by simp, by simp⟩, dbB_nil]
    unfold newS
    simp only [bne, e]
    cases decide ((0 : Int) < (ns.length : Int)) <;> rfl
theorem Li_NewStore_5_val (ns : List ByteArray) (ds : List Int) (st : Sto) (h : ns.length = ds.length) (hz : zL zB ns ≤ 68719476736) : ∀ (n i : Nat), n + i = ns.length → Li_NewStore_5 ns ds st ((mkDb ns ds).take i) ns (ns.length : Int) (i : Int) = some (((newS ns ds).1, (newS ns ds).2, ()), ())
  | 0, i, hn => by
    have hl : ns.length ≤ 68719476736 := Nat.le_trans (zL_len _ _) hz
    obtain rfl : i = ns.length := by omega
    have e : ((ns.length : Int) == (ds.length : Int)) = true := by simp [h]
    rw [Li_NewStore_5_eq, lt_no, List.take_of_length_le (by rw [mkDb_len h]; omega), Si_IsDatabase_val]
    unfold newS
    simp only [e, Option.bind_some]
    cases dbB (mkDb ns ds) <;> rfl
  | n + 1, i, hn => by
    have hl : ns.length ≤ 68719476736 := Nat.le_trans (zL_len _ _) hz
    have hi : i < ns.length := by omega
    have hlen : ((mkDb ns ds).take i).length = i := by rw [List.length_take, mkDb_len h]; omega
    have e8 : decide ((((mkDb ns ds).take i).length + 1) * 48 ≤ 140737488355328) = true := by rw [hlen]; simp; omega
    rw [Li_NewStore_5_eq, lt_yes hi, getI_ok hi, getI_ok (show i < ds.length by omega), wrap_succ (by omega), e8]
    simp only [cond_true, Option.bind_some]
    rw [← mkDb_take h hi]
    exact Li_NewStore_5_val ns ds st h hz n (i + 1) (by omega)
theorem Si_NewStore_val (ns : List ByteArray) (ds : List Int) (hz : zL zB ns ≤ 68719476736) : Si_NewStore ns ds = some (((newS ns ds).1, (newS ns ds).2, ()), ()) := by
  rw [Si_NewStore_eq]
  by_cases h : ns.length = ds.length
  · have := Li_NewStore_5_val ns ds ([], []) h hz ns.length 0 (by omega)
    rw [List.take_zero] at this
    have e : ((ns.length : Int) != (ds.length : Int)) = false := by simp [h]
    rw [e, cond_false]
    exact this
  · have e : ((ns.length : Int) == (ds.length : Int)) = false := by simp; omega
    unfold newS
    simp only [bne, e]; rfl
theorem zS_new (ns : List ByteArray) (ds : List Int) : zS (newS ns ds).1 ≤ 1 + zL zB ns := by
  unfold newS
  have := zQ_mkDb ns ds
  have e0 : zS (([], []) : Sto) = 0 := by simp [zS, zL]
  cases ((ns.length : Int) == (ds.length : Int)) with
  | false => simp only [cond_false]; rw [e0]; omega
  | true =>
    cases dbB (mkDb ns ds) with
    | false => simp only [cond_true, cond_false]; rw [e0]; omega
    | true =>
      simp only [cond_true]
      have : zS (([], [mkDb ns ds]) : Sto) = 1 + zL zQ (mkDb ns ds) := by simp [zS, zL]
      omega
theorem law_NewStore (ns : List ByteArray) (ds : List Int) (hn : WfD (.slice 0 .str) ns) (hd : WfD (.slice 0 (.int .i64)) ds) : Sw_FnExactNewStore ns ds = some ((true, ()), ()) := by
  rw [Sw_FnExactNewStore_eq]
  by_cases hb : (ds.length : Int) > 1048576
  · simp [hb]
  rw [Sw_szStringS_val ns 1048576 hn (by omega) (by omega)]
  simp only [hb, decide_false, cond_false, Option.bind_some]
  rcases subN_cases 1048576 (zL zB ns) with ⟨e, _⟩ | ⟨k1, e, a1, d1⟩
  · rw [e]; rfl
  have c1 : decide (k1 < 0) = false := by simp; omega
  rw [e]; simp only [c1, cond_false]
  have zn : zL zB ns ≤ 1048576 := by omega
  have zd : zI ds ≤ 1048576 := by unfold zI; omega
  have zr := zS_new ns ds
  have q0 := mL_md mdTx ns 1
  have q1 := mL_mdI ds (mL mTx ns 1).2
  have q2 := tdS (newS ns ds).1 1
  have c2 : decide ((mL mI ds (mL mTx ns 1).2).2 < 0) = false := decide_eq_false (by omega)
  have c3 : decide ((tS (newS ns ds).1 1).2 < 0) = false := decide_eq_false (by omega)
  simp only [Sw_toStringS_val ns (by omega), Sw_toIntS_val ds (by omega), Option.bind_some, Ss_NewStore_val ns ds (by omega), Si_NewStore_val ns ds (by omega), Sw_eqStore_val _ (show zS (newS ns ds).1 ≤ 68719476736 by omega), Bool.not_true, cond_false, beq_self_eq_true,
    Sw_eqStringS_val ns (by omega), Sw_eqIntS_val ds (by omega), Sw_markStringS_val ns 1 (by omega) (by omega) (by omega), Sw_markIntS_val ds (mL mTx ns 1).2 (by omega) (by omega) (by unfold zI at zd; omega), c2,
    Sw_markStore_val _ 1 (by omega) (show (tS (newS ns ds).1 1).2 ≤ 1000000000000000000 by omega) (by omega), Sw_heldStore_val _ 1 (by omega) (show (tS (newS ns ds).1 1).2 ≤ 1000000000000000000 by omega) (by omega), c3, bne_self_eq_false]
end Go.Proofs.Ytjccadhifgkdbaa.P.It
