/- A part of the proof: Plaine. No conditions. -/
import Derived.Test.YtjccadhifgkdbaaPIt3e
import Derived.Test.YtjccadhifgkdbaaPG6
set_option linter.unusedVariables false
set_option linter.unusedSimpArgs false
namespace Go.Proofs.Ytjccadhifgkdbaa.P.It
open Am
/-! ### numbers, lists, loops -/
theorem wrap_id {x : Int} (h1 : -9223372036854775808 ≤ x) (h2 : x ≤ 9223372036854775807) : IntKind.i64.wrap x = x := by
  rw [IntKind.wrap_i64]; omega
theorem getI_ok {α : Type} {xs : List α} {i : Nat} (h : i < xs.length) : getI xs (i : Int) = some xs[i] := by
  unfold getI
  rw [if_pos (by omega)]
  simp [h]
theorem wrap_succ {i : Nat} (h : i ≤ 1000000000000) : IntKind.i64.wrap ((i : Int) + 1) = ((i + 1 : Nat) : Int) := by
  rw [wrap_id] <;> omega
theorem wrap_up {k : Int} (h0 : 0 ≤ k) (h1 : k ≤ 1000000000000000000) : IntKind.i64.wrap (k + 1) = k + 1 := wrap_id (by omega) (by omega)
theorem lt_yes {i n : Nat} (h : i < n) : decide ((i : Int) < (n : Int)) = true := by simp; omega
theorem lt_no (n : Nat) : decide ((n : Int) < (n : Int)) = false := by simp
theorem getI_set {α : Type} {x : List α} {i : Nat} (h : i < x.length) (v : α) : getI (x.set i v) (i : Int) = some v := by
  rw [getI_ok (by simpa using h)]; simp
/-- All elements. -/
theorem all_loop {α R : Type} (x : List α) (p : α → Bool) (F E : Option R) (f : Int → Option R) (hl : x.length ≤ 68719476736)
    (h1 : ∀ (i : Nat) (h : i < x.length), f (i : Int) = bif p x[i] then f ((i + 1 : Nat) : Int) else F) (h2 : f (x.length : Int) = E) :
    ∀ (n i : Nat), n + i = x.length → f (i : Int) = bif (x.drop i).all p then E else F
  | 0, i, hn => by
    obtain rfl : i = x.length := by omega
    rw [h2, List.drop_eq_nil_of_le (by omega)]
    rfl
  | n + 1, i, hn => by
    have hi : i < x.length := by omega
    rw [h1 i hi, all_loop x p F E f hl h1 h2 n (i + 1) (by omega), List.drop_eq_getElem_cons hi, List.all_cons]
    cases p x[i] <;> rfl
theorem all0 {α R : Type} (x : List α) (p : α → Bool) (F E : Option R) (f : Int → Option R) (hl : x.length ≤ 68719476736)
    (h1 : ∀ (i : Nat) (h : i < x.length), f (i : Int) = bif p x[i] then f ((i + 1 : Nat) : Int) else F) (h2 : f (x.length : Int) = E) : f 0 = bif x.all p then E else F := by
  have := all_loop x p F E f hl h1 h2 x.length 0 (by omega)
  rwa [List.drop_zero] at this
/-- The first of some elements. -/
def findB {α : Type} (p : α → Bool) (x : List α) : Int := if x.findIdx p < x.length then (x.findIdx p : Int) else -1
theorem find_loop {α R : Type} (x : List α) (p : α → Bool) (r : Int → Option R) (f : Int → Option R)
    (h1 : ∀ (i : Nat) (h : i < x.length), f (i : Int) = bif p x[i] then r (i : Int) else f ((i + 1 : Nat) : Int)) (h2 : f (x.length : Int) = r (-1)) :
    ∀ (n i : Nat), n + i = x.length → (∀ j (h : j < x.length), j < i → p x[j] = false) → f (i : Int) = r (findB p x)
  | 0, i, hn, hp => by
    obtain rfl : i = x.length := by omega
    have : x.findIdx p = x.length := List.findIdx_eq_length.2 (fun y hy => by
      obtain ⟨j, hj, rfl⟩ := List.mem_iff_getElem.1 hy
      exact hp j hj hj)
    rw [h2]
    unfold findB
    rw [if_neg (by omega)]
  | n + 1, i, hn, hp => by
    have hi : i < x.length := by omega
    rw [h1 i hi]
    cases hb : p x[i] with
    | true =>
      have : x.findIdx p = i := (List.findIdx_eq hi).2 ⟨hb, fun j hj => hp j (by omega) hj⟩
      unfold findB
      rw [this, if_pos hi]
      rfl
    | false =>
      rw [cond_false]
      exact find_loop x p r f h1 h2 n (i + 1) (by omega) (fun j hj hji => by
        by_cases he : j = i
        · subst he; exact hb
        · exact hp j hj (by omega))

/-! ### what is left of a purse -/
def zB (x : ByteArray) : Nat := x.size
def zI (x : List Int) : Nat := x.length
def zL {α : Type} (f : α → Nat) (x : List α) : Nat := x.length + (x.map f).sum
theorem zL_len {α : Type} (f : α → Nat) (x : List α) : x.length ≤ zL f x := Nat.le_add_right _ _
theorem zL_mem {α : Type} (f : α → Nat) {x : List α} {y : α} (h : y ∈ x) : f y ≤ zL f x := by
  have : f y ≤ (x.map f).sum := by
    induction x with
    | nil => cases h
    | cons a l ih =>
      rw [List.map_cons, List.sum_cons]
      rcases List.mem_cons.1 h with rfl | h
      · omega
      · have := ih h; omega
  unfold zL
  omega
/-- Equalities of a thing with itself. -/
theorem eq_loop {α R : Type} (x : List α) (E : Option R) (f : Int → Option R) (hl : x.length ≤ 68719476736)
    (h1 : ∀ (i : Nat) (h : i < x.length), f (i : Int) = f ((i + 1 : Nat) : Int)) (h2 : f (x.length : Int) = E) : f 0 = E := by
  have := all0 x (fun _ => true) E E f hl (fun i h => by simpa using h1 i h) h2
  rw [this]
  cases x.all _ <;> rfl

/-! ### the data -/
abbrev Hou := Sto × Bool × List Opn × List ByteArray × List Viw
def zA (x : Atm) : Nat := zI x.1
def zC (x : Cel) : Nat := zL zA x.2
def zR (x : Rw) : Nat := zB x.1 + zC x.2
def zQ (x : Rel) : Nat := zB x.1 + zL zR x.2.2
def zN (x : Nod) : Nat := zA x.2.1 + zB x.2.2.1 + zB x.2.2.2.1 + zI x.2.2.2.2.1
def zP (x : Sup) : Nat := zC x.1 + zL zI x.2
def zV (x : Viw) : Nat := zL zN x.1 + zL zP x.2
def zO (x : Opn) : Nat := zB x.2.1 + zB x.2.2.1 + zC x.2.2.2.1 + zI x.2.2.2.2
def zS (x : Sto) : Nat := zL (zL zN) x.1 + zL (zL zQ) x.2
def zH (x : Hou) : Nat := zS x.1 + zL zO x.2.2.1 + zL zB x.2.2.2.1 + zL zV x.2.2.2.2
theorem Sw_eqIntS_val (x : List Int) (h : zI x ≤ 68719476736) : Sw_eqIntS x x = some ((true, ()), ()) := by
  have hl : x.length ≤ 68719476736 := h
  rw [Sw_eqIntS_eq]
  simp only [bne_self_eq_false, cond_false]
  refine eq_loop x (some ((true, ()), ())) (fun i => Lw_eqIntS_4 x x i) hl (fun i hi => ?_) ?_
  · rw [Lw_eqIntS_4_eq, lt_yes hi, wrap_succ (by omega)]
    simp only [getI_ok hi, cond_true, Option.bind_some, bne_self_eq_false, beq_self_eq_true, Bool.not_true, cond_false]
  · rw [Lw_eqIntS_4_eq, lt_no]; rfl
theorem Sw_eqIntSS_val (x : List (List Int)) (h : zL zI x ≤ 68719476736) : Sw_eqIntSS x x = some ((true, ()), ()) := by
  have hl : x.length ≤ 68719476736 := Nat.le_trans (zL_len _ x) h
  rw [Sw_eqIntSS_eq]
  simp only [bne_self_eq_false, cond_false]
  refine eq_loop x (some ((true, ()), ())) (fun i => Lw_eqIntSS_4 x x i) hl (fun i hi => ?_) ?_
  · rw [Lw_eqIntSS_4_eq, lt_yes hi, wrap_succ (by omega)]
    simp only [getI_ok hi, cond_true, Option.bind_some, Sw_eqIntS_val _ (Nat.le_trans (zL_mem _ (List.getElem_mem hi)) h), Bool.not_true, cond_false]
  · rw [Lw_eqIntSS_4_eq, lt_no]; rfl
theorem Sw_eqStringS_val (x : List ByteArray) (h : zL zB x ≤ 68719476736) : Sw_eqStringS x x = some ((true, ()), ()) := by
  have hl : x.length ≤ 68719476736 := Nat.le_trans (zL_len _ x) h
  rw [Sw_eqStringS_eq]
  simp only [bne_self_eq_false, cond_false]
  refine eq_loop x (some ((true, ()), ())) (fun i => Lw_eqStringS_4 x x i) hl (fun i hi => ?_) ?_
  · rw [Lw_eqStringS_4_eq, lt_yes hi, wrap_succ (by omega)]
    simp only [getI_ok hi, cond_true, Option.bind_some, bne_self_eq_false, beq_self_eq_true, Bool.not_true, cond_false]
  · rw [Lw_eqStringS_4_eq, lt_no]; rfl
theorem Sw_eqAtom_val (x : Atm) (h : zA x ≤ 68719476736) : Sw_eqAtom x x = some ((true, ()), ()) := by
  have hz : zA x = zI x.1 := rfl
  rw [Sw_eqAtom_eq]
  simp only [bne_self_eq_false, beq_self_eq_true, Bool.not_true, cond_false, Option.bind_some, Sw_eqIntS_val x.1 (by omega)]
theorem Sw_eqAtomS_val (x : List Atm) (h : zL zA x ≤ 68719476736) : Sw_eqAtomS x x = some ((true, ()), ()) := by
  have hl : x.length ≤ 68719476736 := Nat.le_trans (zL_len _ x) h
  rw [Sw_eqAtomS_eq]
  simp only [bne_self_eq_false, cond_false]
  refine eq_loop x (some ((true, ()), ())) (fun i => Lw_eqAtomS_4 x x i) hl (fun i hi => ?_) ?_
  · rw [Lw_eqAtomS_4_eq, lt_yes hi, wrap_succ (by omega)]
    simp only [getI_ok hi, cond_true, Option.bind_some, Sw_eqAtom_val _ (Nat.le_trans (zL_mem _ (List.getElem_mem hi)) h), Bool.not_true, cond_false]
  · rw [Lw_eqAtomS_4_eq, lt_no]; rfl
theorem Sw_eqCell_val (x : Cel) (h : zC x ≤ 68719476736) : Sw_eqCell x x = some ((true, ()), ()) := by
  have hz : zC x = zL zA x.2 := rfl
  rw [Sw_eqCell_eq]
  simp only [bne_self_eq_false, beq_self_eq_true, Bool.not_true, cond_false, Option.bind_some, Sw_eqAtomS_val x.2 (by omega)]
theorem Sw_eqRow_val (x : Rw) (h : zR x ≤ 68719476736) : Sw_eqRow x x = some ((true, ()), ()) := by
  have hz : zR x = zB x.1 + zC x.2 := rfl
  rw [Sw_eqRow_eq]
  simp only [bne_self_eq_false, beq_self_eq_true, Bool.not_true, cond_false, Option.bind_some, Sw_eqCell_val x.2 (by omega)]
theorem Sw_eqRowS_val (x : List Rw) (h : zL zR x ≤ 68719476736) : Sw_eqRowS x x = some ((true, ()), ()) := by
  have hl : x.length ≤ 68719476736 := Nat.le_trans (zL_len _ x) h
  rw [Sw_eqRowS_eq]
  simp only [bne_self_eq_false, cond_false]
  refine eq_loop x (some ((true, ()), ())) (fun i => Lw_eqRowS_4 x x i) hl (fun i hi => ?_) ?_
  · rw [Lw_eqRowS_4_eq, lt_yes hi, wrap_succ (by omega)]
    simp only [getI_ok hi, cond_true, Option.bind_some, Sw_eqRow_val _ (Nat.le_trans (zL_mem _ (List.getElem_mem hi)) h), Bool.not_true, cond_false]
  · rw [Lw_eqRowS_4_eq, lt_no]; rfl
theorem Sw_eqRelation_val (x : Rel) (h : zQ x ≤ 68719476736) : Sw_eqRelation x x = some ((true, ()), ()) := by
  have hz : zQ x = zB x.1 + zL zR x.2.2 := rfl
  rw [Sw_eqRelation_eq]
  simp only [bne_self_eq_false, beq_self_eq_true, Bool.not_true, cond_false, Option.bind_some, Sw_eqRowS_val x.2.2 (by omega)]
theorem Sw_eqRelationS_val (x : List Rel) (h : zL zQ x ≤ 68719476736) : Sw_eqRelationS x x = some ((true, ()), ()) := by
  have hl : x.length ≤ 68719476736 := Nat.le_trans (zL_len _ x) h
  rw [Sw_eqRelationS_eq]
  simp only [bne_self_eq_false, cond_false]
  refine eq_loop x (some ((true, ()), ())) (fun i => Lw_eqRelationS_4 x x i) hl (fun i hi => ?_) ?_
  · rw [Lw_eqRelationS_4_eq, lt_yes hi, wrap_succ (by omega)]
    simp only [getI_ok hi, cond_true, Option.bind_some, Sw_eqRelation_val _ (Nat.le_trans (zL_mem _ (List.getElem_mem hi)) h), Bool.not_true, cond_false]
  · rw [Lw_eqRelationS_4_eq, lt_no]; rfl
theorem Sw_eqRelationSS_val (x : List (List Rel)) (h : zL (zL zQ) x ≤ 68719476736) : Sw_eqRelationSS x x = some ((true, ()), ()) := by
  have hl : x.length ≤ 68719476736 := Nat.le_trans (zL_len _ x) h
  rw [Sw_eqRelationSS_eq]
  simp only [bne_self_eq_false, cond_false]
  refine eq_loop x (some ((true, ()), ())) (fun i => Lw_eqRelationSS_4 x x i) hl (fun i hi => ?_) ?_
  · rw [Lw_eqRelationSS_4_eq, lt_yes hi, wrap_succ (by omega)]
    simp only [getI_ok hi, cond_true, Option.bind_some, Sw_eqRelationS_val _ (Nat.le_trans (zL_mem _ (List.getElem_mem hi)) h), Bool.not_true, cond_false]
  · rw [Lw_eqRelationSS_4_eq, lt_no]; rfl
theorem Sw_eqNode_val (x : Nod) (h : zN x ≤ 68719476736) : Sw_eqNode x x = some ((true, ()), ()) := by
  have hz : zN x = zA x.2.1 + zB x.2.2.1 + zB x.2.2.2.1 + zI x.2.2.2.2.1 := rfl
  rw [Sw_eqNode_eq]
  simp only [bne_self_eq_false, beq_self_eq_true, Bool.not_true, cond_false, Option.bind_some, Sw_eqAtom_val x.2.1 (by omega), Sw_eqIntS_val x.2.2.2.2.1 (by omega)]
theorem Sw_eqNodeS_val (x : List Nod) (h : zL zN x ≤ 68719476736) : Sw_eqNodeS x x = some ((true, ()), ()) := by
  have hl : x.length ≤ 68719476736 := Nat.le_trans (zL_len _ x) h
  rw [Sw_eqNodeS_eq]
  simp only [bne_self_eq_false, cond_false]
  refine eq_loop x (some ((true, ()), ())) (fun i => Lw_eqNodeS_4 x x i) hl (fun i hi => ?_) ?_
  · rw [Lw_eqNodeS_4_eq, lt_yes hi, wrap_succ (by omega)]
    simp only [getI_ok hi, cond_true, Option.bind_some, Sw_eqNode_val _ (Nat.le_trans (zL_mem _ (List.getElem_mem hi)) h), Bool.not_true, cond_false]
  · rw [Lw_eqNodeS_4_eq, lt_no]; rfl
theorem Sw_eqNodeSS_val (x : List (List Nod)) (h : zL (zL zN) x ≤ 68719476736) : Sw_eqNodeSS x x = some ((true, ()), ()) := by
  have hl : x.length ≤ 68719476736 := Nat.le_trans (zL_len _ x) h
  rw [Sw_eqNodeSS_eq]
  simp only [bne_self_eq_false, cond_false]
  refine eq_loop x (some ((true, ()), ())) (fun i => Lw_eqNodeSS_4 x x i) hl (fun i hi => ?_) ?_
  · rw [Lw_eqNodeSS_4_eq, lt_yes hi, wrap_succ (by omega)]
    simp only [getI_ok hi, cond_true, Option.bind_some, Sw_eqNodeS_val _ (Nat.le_trans (zL_mem _ (List.getElem_mem hi)) h), Bool.not_true, cond_false]
  · rw [Lw_eqNodeSS_4_eq, lt_no]; rfl
theorem Sw_eqSupport_val (x : Sup) (h : zP x ≤ 68719476736) : Sw_eqSupport x x = some ((true, ()), ()) := by
  have hz : zP x = zC x.1 + zL zI x.2 := rfl
  rw [Sw_eqSupport_eq]
  simp only [bne_self_eq_false, beq_self_eq_true, Bool.not_true, cond_false, Option.bind_some, Sw_eqCell_val x.1 (by omega), Sw_eqIntSS_val x.2 (by omega)]
theorem Sw_eqSupportS_val (x : List Sup) (h : zL zP x ≤ 68719476736) : Sw_eqSupportS x x = some ((true, ()), ()) := by
  have hl : x.length ≤ 68719476736 := Nat.le_trans (zL_len _ x) h
  rw [Sw_eqSupportS_eq]
  simp only [bne_self_eq_false, cond_false]
  refine eq_loop x (some ((true, ()), ())) (fun i => Lw_eqSupportS_4 x x i) hl (fun i hi => ?_) ?_
  · rw [Lw_eqSupportS_4_eq, lt_yes hi, wrap_succ (by omega)]
    simp only [getI_ok hi, cond_true, Option.bind_some, Sw_eqSupport_val _ (Nat.le_trans (zL_mem _ (List.getElem_mem hi)) h), Bool.not_true, cond_false]
  · rw [Lw_eqSupportS_4_eq, lt_no]; rfl
theorem Sw_eqView_val (x : Viw) (h : zV x ≤ 68719476736) : Sw_eqView x x = some ((true, ()), ()) := by
  have hz : zV x = zL zN x.1 + zL zP x.2 := rfl
  rw [Sw_eqView_eq]
  simp only [bne_self_eq_false, beq_self_eq_true, Bool.not_true, cond_false, Option.bind_some, Sw_eqNodeS_val x.1 (by omega), Sw_eqSupportS_val x.2 (by omega)]
theorem Sw_eqViewS_val (x : List Viw) (h : zL zV x ≤ 68719476736) : Sw_eqViewS x x = some ((true, ()), ()) := by
  have hl : x.length ≤ 68719476736 := Nat.le_trans (zL_len _ x) h
  rw [Sw_eqViewS_eq]
  simp only [bne_self_eq_false, cond_false]
  refine eq_loop x (some ((true, ()), ())) (fun i => Lw_eqViewS_4 x x i) hl (fun i hi => ?_) ?_
  · rw [Lw_eqViewS_4_eq, lt_yes hi, wrap_succ (by omega)]
    simp only [getI_ok hi, cond_true, Option.bind_some, Sw_eqView_val _ (Nat.le_trans (zL_mem _ (List.getElem_mem hi)) h), Bool.not_true, cond_false]
  · rw [Lw_eqViewS_4_eq, lt_no]; rfl
theorem Sw_eqOp_val (x : Opn) (h : zO x ≤ 68719476736) : Sw_eqOp x x = some ((true, ()), ()) := by
  have hz : zO x = zB x.2.1 + zB x.2.2.1 + zC x.2.2.2.1 + zI x.2.2.2.2 := rfl
  rw [Sw_eqOp_eq]
  simp only [bne_self_eq_false, beq_self_eq_true, Bool.not_true, cond_false, Option.bind_some, Sw_eqCell_val x.2.2.2.1 (by omega), Sw_eqIntS_val x.2.2.2.2 (by omega)]
theorem Sw_eqOpS_val (x : List Opn) (h : zL zO x ≤ 68719476736) : Sw_eqOpS x x = some ((true, ()), ()) := by
  have hl : x.length ≤ 68719476736 := Nat.le_trans (zL_len _ x) h
  rw [Sw_eqOpS_eq]
  simp only [bne_self_eq_false, cond_false]
  refine eq_loop x (some ((true, ()), ())) (fun i => Lw_eqOpS_4 x x i) hl (fun i hi => ?_) ?_
  · rw [Lw_eqOpS_4_eq, lt_yes hi, wrap_succ (by omega)]
    simp only [getI_ok hi, cond_true, Option.bind_some, Sw_eqOp_val _ (Nat.le_trans (zL_mem _ (List.getElem_mem hi)) h), Bool.not_true, cond_false]
  · rw [Lw_eqOpS_4_eq, lt_no]; rfl
theorem Sw_eqStore_val (x : Sto) (h : zS x ≤ 68719476736) : Sw_eqStore x x = some ((true, ()), ()) := by
  have hz : zS x = zL (zL zN) x.1 + zL (zL zQ) x.2 := rfl
  rw [Sw_eqStore_eq]
  simp only [bne_self_eq_false, beq_self_eq_true, Bool.not_true, cond_false, Option.bind_some, Sw_eqNodeSS_val x.1 (by omega), Sw_eqRelationSS_val x.2 (by omega)]
theorem Sw_eqHouse_val (x : Hou) (h : zH x ≤ 68719476736) : Sw_eqHouse x x = some ((true, ()), ()) := by
  have hz : zH x = zS x.1 + zL zO x.2.2.1 + zL zB x.2.2.2.1 + zL zV x.2.2.2.2 := rfl
  rw [Sw_eqHouse_eq]
  simp only [bne_self_eq_false, beq_self_eq_true, Bool.not_true, cond_false, Option.bind_some, Sw_eqStore_val x.1 (by omega), Sw_eqOpS_val x.2.2.1 (by omega), Sw_eqStringS_val x.2.2.2.1 (by omega), Sw_eqViewS_val x.2.2.2.2 (by omega)]

/-! ### marks -/
def mL {α : Type} (m : α → Int → α × Int) : List α → Int → List α × Int
  | [], k => ([], k)
  | y :: l, k => ((m y k).1 :: (mL m l (m y k).2).1, (mL m l (m y k).2).2)
def mI (_ : Int) (k : Int) : Int × Int := (k, k + 1)
def Md {α : Type} (m : α → Int → α × Int) (z : α → Nat) : Prop := ∀ y k, k ≤ (m y k).2 ∧ (m y k).2 ≤ k + 12 * z y + 12
theorem mL_md {α : Type} {m : α → Int → α × Int} {z : α → Nat} (h : Md m z) : ∀ (x : List α) (k : Int), k ≤ (mL m x k).2 ∧ (mL m x k).2 ≤ k + 12 * zL z x
  | [], k => by simp [mL, zL]
  | y :: l, k => by
    have h1 := h y k
    have h2 := mL_md h l (m y k).2
    have e : zL z (y :: l) = 1 + z y + zL z l := by simp only [zL, List.length_cons, List.map_cons, List.sum_cons]; omega
    simp only [mL]
    omega
theorem mdI : Md mI (fun _ => 0) := fun y k => by unfold mI; simp only []; omega
theorem mL_mdI (x : List Int) (k : Int) : k ≤ (mL mI x k).2 ∧ (mL mI x k).2 ≤ k + 12 * zI x := by
  have := mL_md mdI x k
  have e : zL (fun _ : Int => 0) x = zI x := by
    unfold zL zI
    have : ∀ l : List Int, (l.map (fun _ => 0)).sum = 0 := fun l => by induction l <;> simp_all
    rw [this]; rfl
  rw [e] at this
  exact this
theorem mL_len {α : Type} (m : α → Int → α × Int) : ∀ (x : List α) (k : Int), (mL m x k).1.length = x.length
  | [], _ => rfl
  | y :: l, k => by simp only [mL, List.length_cons, mL_len m l]
theorem mark_loop {α : Type} (m : α → Int → α × Int) (z : α → Nat) (hm : ∀ y k, k ≤ (m y k).2) (f : List α → Int → Int → Option ((Int × PUnit) × List α × PUnit))
    (h1 : ∀ (v : List α) (k : Int) (i : Nat) (hi : i < v.length), v.length ≤ 68719476736 → 0 ≤ k → (m v[i] k).2 ≤ 1000000000000000000 → z v[i] ≤ 68719476736 → f v k (i : Int) = f (v.set i (m v[i] k).1) (m v[i] k).2 ((i + 1 : Nat) : Int))
    (h2 : ∀ v k, f v k (v.length : Int) = some ((k, ()), v, ())) (hmL : ∀ x k, k ≤ (mL m x k).2) :
    ∀ (x pre : List α) (k : Int), 0 ≤ k → (mL m x k).2 ≤ 1000000000000000000 → (pre ++ x).length ≤ 68719476736 → (∀ y ∈ x, z y ≤ 68719476736) → f (pre ++ x) k (pre.length : Int) = some (((mL m x k).2, ()), pre ++ (mL m x k).1, ())
  | [], pre, k, _, _, _, _ => by
    rw [List.append_nil, h2]
    simp [mL]
  | y :: l, pre, k, h0, hk, hl, hz => by
    have hy : (pre ++ y :: l)[pre.length]'(by simp) = y := by simp
    have a1 := hm y k
    have a2 := hmL l (m y k).2
    simp only [mL] at hk ⊢
    rw [h1 (pre ++ y :: l) k pre.length (by simp) hl h0 (by rw [hy]; omega) (by rw [hy]; exact hz y (by simp)), hy]
    have e : (pre ++ y :: l).set pre.length (m y k).1 = (pre ++ [(m y k).1]) ++ l := by simp
    rw [e]
    have := mark_loop m z hm f h1 h2 hmL l (pre ++ [(m y k).1]) (m y k).2 (by omega) hk (by simp at hl ⊢; omega) (fun q hq => hz q (List.mem_cons_of_mem _ hq))
    rw [List.length_append, List.length_singleton] at this
    rw [this, List.append_assoc, List.singleton_append]
theorem mark0 {α : Type} (m : α → Int → α × Int) (z : α → Nat) (hm : ∀ y k, k ≤ (m y k).2) (f : List α → Int → Int → Option ((Int × PUnit) × List α × PUnit)) (hmL : ∀ x k, k ≤ (mL m x k).2) (x : List α) (k : Int) (h0 : 0 ≤ k) (hk : (mL m x k).2 ≤ 1000000000000000000) (hl : x.length ≤ 68719476736) (hz : ∀ y ∈ x, z y ≤ 68719476736)
    (h1 : ∀ (v : List α) (k : Int) (i : Nat) (hi : i < v.length), v.length ≤ 68719476736 → 0 ≤ k → (m v[i] k).2 ≤ 1000000000000000000 → z v[i] ≤ 68719476736 → f v k (i : Int) = f (v.set i (m v[i] k).1) (m v[i] k).2 ((i + 1 : Nat) : Int))
    (h2 : ∀ v k, f v k (v.length : Int) = some ((k, ()), v, ())) :
    f x k 0 = some (((mL m x k).2, ()), (mL m x k).1, ()) := by
  have := mark_loop m z hm f h1 h2 hmL x [] k h0 hk (by simpa using hl) hz
  simpa using this
theorem held_loop {α : Type} (m : α → Int → α × Int) (z : α → Nat) (hm : ∀ y k, k ≤ (m y k).2) (f : List α → Int → Int → Option ((Int × PUnit) × PUnit))
    (h1 : ∀ (v : List α) (k : Int) (i : Nat) (hi : i < v.length) (y : α), v[i] = (m y k).1 → v.length ≤ 68719476736 → 0 ≤ k → (m y k).2 ≤ 1000000000000000000 → z y ≤ 68719476736 → f v k (i : Int) = f v (m y k).2 ((i + 1 : Nat) : Int))
    (h2 : ∀ v k, f v k (v.length : Int) = some ((k, ()), ())) (hmL : ∀ x k, k ≤ (mL m x k).2) :
    ∀ (x pre : List α) (k : Int), 0 ≤ k → (mL m x k).2 ≤ 1000000000000000000 → (pre ++ x).length ≤ 68719476736 → (∀ y ∈ x, z y ≤ 68719476736) → f (pre ++ (mL m x k).1) k (pre.length : Int) = some (((mL m x k).2, ()), ())
  | [], pre, k, _, _, _, _ => by
    simp only [mL, List.append_nil]
    rw [h2]
  | y :: l, pre, k, h0, hk, hl, hz => by
    have a1 := hm y k
    have a2 := hmL l (m y k).2
    simp only [mL] at hk ⊢
    rw [h1 _ k pre.length (by simp) y (by simp) (by simp [mL_len] at hl ⊢; omega) h0 (by omega) (hz y (by simp))]
    have := held_loop m z hm f h1 h2 hmL l (pre ++ [(m y k).1]) (m y k).2 (by omega) hk (by simp at hl ⊢; omega) (fun q hq => hz q (List.mem_cons_of_mem _ hq))
    rw [List.length_append, List.length_singleton, List.append_assoc, List.singleton_append] at this
    exact this
theorem held0 {α : Type} (m : α → Int → α × Int) (z : α → Nat) (hm : ∀ y k, k ≤ (m y k).2) (f : List α → Int → Int → Option ((Int × PUnit) × PUnit)) (hmL : ∀ x k, k ≤ (mL m x k).2) (x : List α) (k : Int) (h0 : 0 ≤ k) (hk : (mL m x k).2 ≤ 1000000000000000000) (hl : x.length ≤ 68719476736) (hz : ∀ y ∈ x, z y ≤ 68719476736)
    (h1 : ∀ (v : List α) (k : Int) (i : Nat) (hi : i < v.length) (y : α), v[i] = (m y k).1 → v.length ≤ 68719476736 → 0 ≤ k → (m y k).2 ≤ 1000000000000000000 → z y ≤ 68719476736 → f v k (i : Int) = f v (m y k).2 ((i + 1 : Nat) : Int))
    (h2 : ∀ v k, f v k (v.length : Int) = some ((k, ()), ())) :
    f (mL m x k).1 k 0 = some (((mL m x k).2, ()), ()) := by
  have := held_loop m z hm f h1 h2 hmL x [] k h0 hk (by simpa using hl) hz
  simpa using this

theorem strOf_one (b : Int) : (strOf [b]).size = 1 := rfl
theorem Lw_markText_4_val : ∀ (n : Nat) (k : Int) (s : ByteArray), 0 ≤ k → k < 10 ^ n → k ≤ 1000000000000000000 → s.size + n ≤ 1000 → ∃ r, Lw_markText_4 k s = some ((r, ()), ())
  | 0, k, s, h0, h1, hb, hs => by
    have hk : k = 0 := by simp at h1; omega
    rw [Lw_markText_4_eq, hk]
    have e : decide ((ByteArray.mk #[109]).size + s.size ≤ 140737488355328) = true := by
      have : (ByteArray.mk #[109]).size = 1 := rfl
      rw [this]; simp; omega
    simp only [e, cond_true]
    exact ⟨_, rfl⟩
  | n + 1, k, s, h0, h1, hb, hs => by
    rw [Lw_markText_4_eq]
    by_cases hk : k > 0
    · have e : decide ((strOf [IntKind.u8.wrap (IntKind.i64.wrap (48 + k.tmod 10))]).size + s.size ≤ 140737488355328) = true := by
        rw [strOf_one]; simp; omega
      have hq : k.tdiv 10 = k / 10 := Int.tdiv_eq_ediv_of_nonneg h0
      have h3 : (10 : Int) ^ (n + 1) = 10 ^ n * 10 := Int.pow_succ _ _
      simp only [hk, decide_true, cond_true, e]
      rw [hq, wrap_id (by omega) (by omega)]
      exact Lw_markText_4_val n (k / 10) _ (by omega) (by omega) (by omega) (by rw [ByteArray.size_append, strOf_one]; omega)
    · have e : decide ((ByteArray.mk #[109]).size + s.size ≤ 140737488355328) = true := by
        have : (ByteArray.mk #[109]).size = 1 := rfl
        rw [this]; simp; omega
      simp only [hk, decide_false, cond_false, e, cond_true]
      exact ⟨_, rfl⟩
noncomputable def mtx (k : Int) : ByteArray := match Sw_markText k with
  | some r => r.1.1
  | none => ByteArray.empty
theorem Sw_markText_val (k : Int) (h0 : 0 ≤ k) (h1 : k ≤ 1000000000000000000) : Sw_markText k = some ((mtx k, ()), ()) := by
  have : ∃ r, Sw_markText k = some ((r, ()), ()) := by
    rw [Sw_markText_eq]
    by_cases h : k ≤ 0
    · simp only [h, decide_true, cond_true]; exact ⟨_, rfl⟩
    · simp only [h, decide_false, cond_false]
      have e1 : (10 : Int) ^ 19 = 10000000000000000000 := by decide
      have e2 : (ByteArray.mk #[]).size = 0 := rfl
      exact Lw_markText_4_val 19 k (ByteArray.mk #[]) h0 (by omega) h1 (by omega)
  obtain ⟨r, hr⟩ := this
  unfold mtx
  rw [hr]
noncomputable def mTx (_ : ByteArray) (k : Int) : ByteArray × Int := (mtx k, k + 1)
theorem mdTx : Md mTx zB := fun y k => by unfold mTx; simp only []; omega

theorem Sw_markIntS_val (x : List Int) (k : Int) (h0 : 0 ≤ k) (hk : (mL mI x k).2 ≤ 1000000000000000000) (hl : x.length ≤ 68719476736) : Sw_markIntS x k = some (((mL mI x k).2, ()), (mL mI x k).1, ()) := by
  rw [Sw_markIntS_eq]
  refine mark0 mI (fun _ => 0) (fun y k => (mdI y k).1) (fun v k i => Lw_markIntS_2 v k i) (fun x k => (mL_mdI x k).1) x k h0 hk hl (fun _ _ => Nat.zero_le _) (fun v k i hi hl h0 hk hz => ?_) (fun v k => by rw [Lw_markIntS_2_eq, lt_no]; rfl)
  have hk2 : k + 1 ≤ 1000000000000000000 := hk
  have w0 : IntKind.i64.wrap (k + 1) = k + 1 := wrap_up (by omega) (by omega)
  rw [Lw_markIntS_2_eq, lt_yes hi, wrap_succ (by omega)]
  simp only [cond_true, Option.bind_some, getI_ok hi, getI_set hi, List.set_set, Int.toNat_natCast, w0]
  try rfl
theorem Sw_heldIntS_val (x : List Int) (k : Int) (h0 : 0 ≤ k) (hk : (mL mI x k).2 ≤ 1000000000000000000) (hl : x.length ≤ 68719476736) : Sw_heldIntS (mL mI x k).1 k = some (((mL mI x k).2, ()), ()) := by
  rw [Sw_heldIntS_eq]
  refine held0 mI (fun _ => 0) (fun y k => (mdI y k).1) (fun v k i => Lw_heldIntS_2 v k i) (fun x k => (mL_mdI x k).1) x k h0 hk hl (fun _ _ => Nat.zero_le _) (fun v k i hi y hy hl h0 hk hz => ?_) (fun v k => by rw [Lw_heldIntS_2_eq, lt_no]; rfl)
  have hk2 : k + 1 ≤ 1000000000000000000 := hk
  have w0 : IntKind.i64.wrap (k + 1) = k + 1 := wrap_up (by omega) (by omega)
  rw [Lw_heldIntS_2_eq, lt_yes hi, getI_ok hi, hy, wrap_succ (by omega)]
  simp only [mI, cond_true, Option.bind_some, bne_self_eq_false, beq_self_eq_true, Bool.not_true, cond_false, w0]
theorem mdL_IntS : Md (mL mI) zI := fun x k => by
  have := mL_mdI x k
  omega
theorem Sw_markIntSS_val (x : List (List Int)) (k : Int) (h0 : 0 ≤ k) (hk : (mL (mL mI) x k).2 ≤ 1000000000000000000) (hz : zL zI x ≤ 68719476736) : Sw_markIntSS x k = some (((mL (mL mI) x k).2, ()), (mL (mL mI) x k).1, ()) := by
  rw [Sw_markIntSS_eq]
  refine mark0 (mL mI) zI (fun y k => (mdL_IntS y k).1) (fun v k i => Lw_markIntSS_2 v k i) (fun x k => (mL_md mdL_IntS x k).1) x k h0 hk (Nat.le_trans (zL_len _ x) hz) (fun y hy => Nat.le_trans (zL_mem _ hy) hz) (fun v k i hi hl h0 hk hz => ?_) (fun v k => by rw [Lw_markIntSS_2_eq, lt_no]; rfl)
  have q0 := mL_mdI v[i] k
  have hk2 : (mL mI v[i] k).2 ≤ 1000000000000000000 := hk
  have s0 := Sw_markIntS_val v[i] k (by omega) (by omega) (by have hz3 : zI v[i] ≤ 68719476736 := hz; unfold zI at hz3; omega)
  rw [Lw_markIntSS_2_eq, lt_yes hi, wrap_succ (by omega)]
  simp only [cond_true, Option.bind_some, getI_ok hi, getI_set hi, List.set_set, Int.toNat_natCast, s0]
  try rfl
theorem Sw_heldIntSS_val (x : List (List Int)) (k : Int) (h0 : 0 ≤ k) (hk : (mL (mL mI) x k).2 ≤ 1000000000000000000) (hz : zL zI x ≤ 68719476736) : Sw_heldIntSS (mL (mL mI) x k).1 k = some (((mL (mL mI) x k).2, ()), ()) := by
  rw [Sw_heldIntSS_eq]
  refine held0 (mL mI) zI (fun y k => (mdL_IntS y k).1) (fun v k i => Lw_heldIntSS_2 v k i) (fun x k => (mL_md mdL_IntS x k).1) x k h0 hk (Nat.le_trans (zL_len _ x) hz) (fun y hy => Nat.le_trans (zL_mem _ hy) hz) (fun v k i hi y hy hl h0 hk hz => ?_) (fun v k => by rw [Lw_heldIntSS_2_eq, lt_no]; rfl)
  have q0 := mL_mdI y k
  have hk2 : (mL mI y k).2 ≤ 1000000000000000000 := hk
  have s0 := Sw_heldIntS_val y k (by omega) (by omega) (by have hz3 : zI y ≤ 68719476736 := hz; unfold zI at hz3; omega)
  have n0 : decide ((mL mI y k).2 < 0) = false := decide_eq_false (by omega)
  rw [Lw_heldIntSS_2_eq, lt_yes hi, getI_ok hi, hy, wrap_succ (by omega)]
  simp only [cond_true, Option.bind_some, bne_self_eq_false, beq_self_eq_true, Bool.not_true, cond_false, s0, n0]
theorem Sw_markStringS_val (x : List ByteArray) (k : Int) (h0 : 0 ≤ k) (hk : (mL mTx x k).2 ≤ 1000000000000000000) (hz : zL zB x ≤ 68719476736) : Sw_markStringS x k = some (((mL mTx x k).2, ()), (mL mTx x k).1, ()) := by
  rw [Sw_markStringS_eq]
  refine mark0 mTx zB (fun y k => (mdTx y k).1) (fun v k i => Lw_markStringS_2 v k i) (fun x k => (mL_md mdTx x k).1) x k h0 hk (Nat.le_trans (zL_len _ x) hz) (fun y hy => Nat.le_trans (zL_mem _ hy) hz) (fun v k i hi hl h0 hk hz => ?_) (fun v k => by rw [Lw_markStringS_2_eq, lt_no]; rfl)
  have hk2 : k + 1 ≤ 1000000000000000000 := hk
  have t0 := Sw_markText_val (k) (by omega) (by omega)
  have w0 : IntKind.i64.wrap (k + 1) = k + 1 := wrap_up (by omega) (by omega)
  rw [Lw_markStringS_2_eq, lt_yes hi, wrap_succ (by omega)]
  simp only [cond_true, Option.bind_some, getI_ok hi, getI_set hi, List.set_set, Int.toNat_natCast, t0, w0]
  try rfl
theorem Sw_heldStringS_val (x : List ByteArray) (k : Int) (h0 : 0 ≤ k) (hk : (mL mTx x k).2 ≤ 1000000000000000000) (hz : zL zB x ≤ 68719476736) : Sw_heldStringS (mL mTx x k).1 k = some (((mL mTx x k).2, ()), ()) := by
  rw [Sw_heldStringS_eq]
  refine held0 mTx zB (fun y k => (mdTx y k).1) (fun v k i => Lw_heldStringS_2 v k i) (fun x k => (mL_md mdTx x k).1) x k h0 hk (Nat.le_trans (zL_len _ x) hz) (fun y hy => Nat.le_trans (zL_mem _ hy) hz) (fun v k i hi y hy hl h0 hk hz => ?_) (fun v k => by rw [Lw_heldStringS_2_eq, lt_no]; rfl)
  have hk2 : k + 1 ≤ 1000000000000000000 := hk
  have t0 := Sw_markText_val (k) (by omega) (by omega)
  have w0 : IntKind.i64.wrap (k + 1) = k + 1 := wrap_up (by omega) (by omega)
  rw [Lw_heldStringS_2_eq, lt_yes hi, getI_ok hi, hy, wrap_succ (by omega)]
  simp only [mTx, cond_true, Option.bind_some, bne_self_eq_false, beq_self_eq_true, Bool.not_true, cond_false, t0, w0]
noncomputable def mA (x : Atm) (k : Int) : Atm × Int := (((mL mI x.1 k).1, (mL mI x.1 k).2, ((mL mI x.1 k).2 + 1).tmod 3 == 0), (mL mI x.1 k).2 + 1 + 1)
theorem mdA : Md mA zA := fun x k => by
  have q0 := mL_mdI x.1 k
  have hz : zA x = zI x.1 := rfl
  unfold mA
  simp only []
  omega
theorem Sw_markAtomS_val (x : List Atm) (k : Int) (h0 : 0 ≤ k) (hk : (mL mA x k).2 ≤ 1000000000000000000) (hz : zL zA x ≤ 68719476736) : Sw_markAtomS x k = some (((mL mA x k).2, ()), (mL mA x k).1, ()) := by
  rw [Sw_markAtomS_eq]
  refine mark0 mA zA (fun y k => (mdA y k).1) (fun v k i => Lw_markAtomS_2 v k i) (fun x k => (mL_md mdA x k).1) x k h0 hk (Nat.le_trans (zL_len _ x) hz) (fun y hy => Nat.le_trans (zL_mem _ hy) hz) (fun v k i hi hl h0 hk hz => ?_) (fun v k => by rw [Lw_markAtomS_2_eq, lt_no]; rfl)
  have q0 := mL_mdI v[i].1 k
  have hk2 : (mL mI v[i].1 k).2 + 1 + 1 ≤ 1000000000000000000 := hk
  have hz2 : zI v[i].1 ≤ 68719476736 := by have hz3 : zA v[i] ≤ 68719476736 := hz; simp only [zA] at hz3; omega
  have s0 := Sw_markIntS_val v[i].1 k (by omega) (by omega) (by unfold zI at *; omega)
  have w1 : IntKind.i64.wrap ((mL mI v[i].1 k).2 + 1) = (mL mI v[i].1 k).2 + 1 := wrap_up (by omega) (by omega)
  have w2 : IntKind.i64.wrap ((mL mI v[i].1 k).2 + 1 + 1) = (mL mI v[i].1 k).2 + 1 + 1 := wrap_up (by omega) (by omega)
  rw [Lw_markAtomS_2_eq, lt_yes hi, wrap_succ (by omega)]
  simp only [cond_true, Option.bind_some, getI_ok hi, getI_set hi, List.set_set, Int.toNat_natCast, s0, w1, w2]
  try rfl
theorem Sw_heldAtomS_val (x : List Atm) (k : Int) (h0 : 0 ≤ k) (hk : (mL mA x k).2 ≤ 1000000000000000000) (hz : zL zA x ≤ 68719476736) : Sw_heldAtomS (mL mA x k).1 k = some (((mL mA x k).2, ()), ()) := by
  rw [Sw_heldAtomS_eq]
  refine held0 mA zA (fun y k => (mdA y k).1) (fun v k i => Lw_heldAtomS_2 v k i) (fun x k => (mL_md mdA x k).1) x k h0 hk (Nat.le_trans (zL_len _ x) hz) (fun y hy => Nat.le_trans (zL_mem _ hy) hz) (fun v k i hi y hy hl h0 hk hz => ?_) (fun v k => by rw [Lw_heldAtomS_2_eq, lt_no]; rfl)
  have q0 := mL_mdI y.1 k
  have hk2 : (mL mI y.1 k).2 + 1 + 1 ≤ 1000000000000000000 := hk
  have hz2 : zI y.1 ≤ 68719476736 := by have hz3 : zA y ≤ 68719476736 := hz; simp only [zA] at hz3; omega
  have s0 := Sw_heldIntS_val y.1 k (by omega) (by omega) (by unfold zI at *; omega)
  have n0 : decide ((mL mI y.1 k).2 < 0) = false := decide_eq_false (by omega)
  have w1 : IntKind.i64.wrap ((mL mI y.1 k).2 + 1) = (mL mI y.1 k).2 + 1 := wrap_up (by omega) (by omega)
  have w2 : IntKind.i64.wrap ((mL mI y.1 k).2 + 1 + 1) = (mL mI y.1 k).2 + 1 + 1 := wrap_up (by omega) (by omega)
  rw [Lw_heldAtomS_2_eq, lt_yes hi, getI_ok hi, hy, wrap_succ (by omega)]
  simp only [mA, cond_true, Option.bind_some, bne_self_eq_false, beq_self_eq_true, Bool.not_true, cond_false, s0, n0, w1, w2]
noncomputable def mR (x : Rw) (k : Int) : Rw × Int := ((mtx k, (k + 1, (mL mA x.2.2 (k + 1 + 1)).1)), (mL mA x.2.2 (k + 1 + 1)).2)
theorem mdR : Md mR zR := fun x k => by
  have q2 := mL_md mdA x.2.2 (k + 1 + 1)
  have hz : zR x = zB x.1 + zL zA x.2.2 := by simp only [zR, zC] <;> omega
  unfold mR
  simp only []
  omega
theorem Sw_markRowS_val (x : List Rw) (k : Int) (h0 : 0 ≤ k) (hk : (mL mR x k).2 ≤ 1000000000000000000) (hz : zL zR x ≤ 68719476736) : Sw_markRowS x k = some (((mL mR x k).2, ()), (mL mR x k).1, ()) := by
  rw [Sw_markRowS_eq]
  refine mark0 mR zR (fun y k => (mdR y k).1) (fun v k i => Lw_markRowS_2 v k i) (fun x k => (mL_md mdR x k).1) x k h0 hk (Nat.le_trans (zL_len _ x) hz) (fun y hy => Nat.le_trans (zL_mem _ hy) hz) (fun v k i hi hl h0 hk hz => ?_) (fun v k => by rw [Lw_markRowS_2_eq, lt_no]; rfl)
  have q2 := mL_md mdA v[i].2.2 (k + 1 + 1)
  have hk2 : (mL mA v[i].2.2 (k + 1 + 1)).2 ≤ 1000000000000000000 := hk
  have hz2 : zB v[i].1 + zL zA v[i].2.2 ≤ 68719476736 := by have hz3 : zR v[i] ≤ 68719476736 := hz; simp only [zR, zC] at hz3; omega
  have t0 := Sw_markText_val (k) (by omega) (by omega)
  have w0 : IntKind.i64.wrap (k + 1) = k + 1 := wrap_up (by omega) (by omega)
  have w1 : IntKind.i64.wrap (k + 1 + 1) = k + 1 + 1 := wrap_up (by omega) (by omega)
  have s2 := Sw_markAtomS_val v[i].2.2 (k + 1 + 1) (by omega) (by omega) (by omega)
  rw [Lw_markRowS_2_eq, lt_yes hi, wrap_succ (by omega)]
  simp only [cond_true, Option.bind_some, getI_ok hi, getI_set hi, List.set_set, Int.toNat_natCast, t0, w0, w1, s2]
  try rfl
theorem Sw_heldRowS_val (x : List Rw) (k : Int) (h0 : 0 ≤ k) (hk : (mL mR x k).2 ≤ 1000000000000000000) (hz : zL zR x ≤ 68719476736) : Sw_heldRowS (mL mR x k).1 k = some (((mL mR x k).2, ()), ()) := by
  rw [Sw_heldRowS_eq]
  refine held0 mR zR (fun y k => (mdR y k).1) (fun v k i => Lw_heldRowS_2 v k i) (fun x k => (mL_md mdR x k).1) x k h0 hk (Nat.le_trans (zL_len _ x) hz) (fun y hy => Nat.le_trans (zL_mem _ hy) hz) (fun v k i hi y hy hl h0 hk hz => ?_) (fun v k => by rw [Lw_heldRowS_2_eq, lt_no]; rfl)
  have q2 := mL_md mdA y.2.2 (k + 1 + 1)
  have hk2 : (mL mA y.2.2 (k + 1 + 1)).2 ≤ 1000000000000000000 := hk
  have hz2 : zB y.1 + zL zA y.2.2 ≤ 68719476736 := by have hz3 : zR y ≤ 68719476736 := hz; simp only [zR, zC] at hz3; omega
  have t0 := Sw_markText_val (k) (by omega) (by omega)
  have w0 : IntKind.i64.wrap (k + 1) = k + 1 := wrap_up (by omega) (by omega)
  have w1 : IntKind.i64.wrap (k + 1 + 1) = k + 1 + 1 := wrap_up (by omega) (by omega)
  have s2 := Sw_heldAtomS_val y.2.2 (k + 1 + 1) (by omega) (by omega) (by omega)
  have n2 : decide ((mL mA y.2.2 (k + 1 + 1)).2 < 0) = false := decide_eq_false (by omega)
  rw [Lw_heldRowS_2_eq, lt_yes hi, getI_ok hi, hy, wrap_succ (by omega)]
  simp only [mR, cond_true, Option.bind_some, bne_self_eq_false, beq_self_eq_true, Bool.not_true, cond_false, t0, w0, w1, s2, n2]
noncomputable def mQ (x : Rel) (k : Int) : Rel × Int := ((mtx k, k + 1, (mL mR x.2.2 (k + 1 + 1)).1), (mL mR x.2.2 (k + 1 + 1)).2)
theorem mdQ : Md mQ zQ := fun x k => by
  have q2 := mL_md mdR x.2.2 (k + 1 + 1)
  have hz : zQ x = zB x.1 + zL zR x.2.2 := rfl
  unfold mQ
  simp only []
  omega
theorem Sw_markRelationS_val (x : List Rel) (k : Int) (h0 : 0 ≤ k) (hk : (mL mQ x k).2 ≤ 1000000000000000000) (hz : zL zQ x ≤ 68719476736) : Sw_markRelationS x k = some (((mL mQ x k).2, ()), (mL mQ x k).1, ()) := by
  rw [Sw_markRelationS_eq]
  refine mark0 mQ zQ (fun y k => (mdQ y k).1) (fun v k i => Lw_markRelationS_2 v k i) (fun x k => (mL_md mdQ x k).1) x k h0 hk (Nat.le_trans (zL_len _ x) hz) (fun y hy => Nat.le_trans (zL_mem _ hy) hz) (fun v k i hi hl h0 hk hz => ?_) (fun v k => by rw [Lw_markRelationS_2_eq, lt_no]; rfl)
  have q2 := mL_md mdR v[i].2.2 (k + 1 + 1)
  have hk2 : (mL mR v[i].2.2 (k + 1 + 1)).2 ≤ 1000000000000000000 := hk
  have hz2 : zB v[i].1 + zL zR v[i].2.2 ≤ 68719476736 := by have hz3 : zQ v[i] ≤ 68719476736 := hz; simp only [zQ] at hz3; omega
  have t0 := Sw_markText_val (k) (by omega) (by omega)
  have w0 : IntKind.i64.wrap (k + 1) = k + 1 := wrap_up (by omega) (by omega)
  have w1 : IntKind.i64.wrap (k + 1 + 1) = k + 1 + 1 := wrap_up (by omega) (by omega)
  have s2 := Sw_markRowS_val v[i].2.2 (k + 1 + 1) (by omega) (by omega) (by omega)
  rw [Lw_markRelationS_2_eq, lt_yes hi, wrap_succ (by omega)]
  simp only [cond_true, Option.bind_some, getI_ok hi, getI_set hi, List.set_set, Int.toNat_natCast, t0, w0, w1, s2]
  try rfl
theorem Sw_heldRelationS_val (x : List Rel) (k : Int) (h0 : 0 ≤ k) (hk : (mL mQ x k).2 ≤ 1000000000000000000) (hz : zL zQ x ≤ 68719476736) : Sw_heldRelationS (mL mQ x k).1 k = some (((mL mQ x k).2, ()), ()) := by
  rw [Sw_heldRelationS_eq]
  refine held0 mQ zQ (fun y k => (mdQ y k).1) (fun v k i => Lw_heldRelationS_2 v k i) (fun x k => (mL_md mdQ x k).1) x k h0 hk (Nat.le_trans (zL_len _ x) hz) (fun y hy => Nat.le_trans (zL_mem _ hy) hz) (fun v k i hi y hy hl h0 hk hz => ?_) (fun v k => by rw [Lw_heldRelationS_2_eq, lt_no]; rfl)
  have q2 := mL_md mdR y.2.2 (k + 1 + 1)
  have hk2 : (mL mR y.2.2 (k + 1 + 1)).2 ≤ 1000000000000000000 := hk
  have hz2 : zB y.1 + zL zR y.2.2 ≤ 68719476736 := by have hz3 : zQ y ≤ 68719476736 := hz; simp only [zQ] at hz3; omega
  have t0 := Sw_markText_val (k) (by omega) (by omega)
  have w0 : IntKind.i64.wrap (k + 1) = k + 1 := wrap_up (by omega) (by omega)
  have w1 : IntKind.i64.wrap (k + 1 + 1) = k + 1 + 1 := wrap_up (by omega) (by omega)
  have s2 := Sw_heldRowS_val y.2.2 (k + 1 + 1) (by omega) (by omega) (by omega)
  have n2 : decide ((mL mR y.2.2 (k + 1 + 1)).2 < 0) = false := decide_eq_false (by omega)
  rw [Lw_heldRelationS_2_eq, lt_yes hi, getI_ok hi, hy, wrap_succ (by omega)]
  simp only [mQ, cond_true, Option.bind_some, bne_self_eq_false, beq_self_eq_true, Bool.not_true, cond_false, t0, w0, w1, s2, n2]
theorem mdL_RelationS : Md (mL mQ) (zL zQ) := fun x k => by
  have := mL_md mdQ x k
  omega
theorem Sw_markRelationSS_val (x : List (List Rel)) (k : Int) (h0 : 0 ≤ k) (hk : (mL (mL mQ) x k).2 ≤ 1000000000000000000) (hz : zL (zL zQ) x ≤ 68719476736) : Sw_markRelationSS x k = some (((mL (mL mQ) x k).2, ()), (mL (mL mQ) x k).1, ()) := by
  rw [Sw_markRelationSS_eq]
  refine mark0 (mL mQ) (zL zQ) (fun y k => (mdL_RelationS y k).1) (fun v k i => Lw_markRelationSS_2 v k i) (fun x k => (mL_md mdL_RelationS x k).1) x k h0 hk (Nat.le_trans (zL_len _ x) hz) (fun y hy => Nat.le_trans (zL_mem _ hy) hz) (fun v k i hi hl h0 hk hz => ?_) (fun v k => by rw [Lw_markRelationSS_2_eq, lt_no]; rfl)
  have q0 := mL_md mdQ v[i] k
  have hk2 : (mL mQ v[i] k).2 ≤ 1000000000000000000 := hk
  have s0 := Sw_markRelationS_val v[i] k (by omega) (by omega) (by have hz3 : zL zQ v[i] ≤ 68719476736 := hz; omega)
  rw [Lw_markRelationSS_2_eq, lt_yes hi, wrap_succ (by omega)]
  simp only [cond_true, Option.bind_some, getI_ok hi, getI_set hi, List.set_set, Int.toNat_natCast, s0]
  try rfl
theorem Sw_heldRelationSS_val (x : List (List Rel)) (k : Int) (h0 : 0 ≤ k) (hk : (mL (mL mQ) x k).2 ≤ 1000000000000000000) (hz : zL (zL zQ) x ≤ 68719476736) : Sw_heldRelationSS (mL (mL mQ) x k).1 k = some (((mL (mL mQ) x k).2, ()), ()) := by
  rw [Sw_heldRelationSS_eq]
  refine held0 (mL mQ) (zL zQ) (fun y k => (mdL_RelationS y k).1) (fun v k i => Lw_heldRelationSS_2 v k i) (fun x k => (mL_md mdL_RelationS x k).1) x k h0 hk (Nat.le_trans (zL_len _ x) hz) (fun y hy => Nat.le_trans (zL_mem _ hy) hz) (fun v k i hi y hy hl h0 hk hz => ?_) (fun v k => by rw [Lw_heldRelationSS_2_eq, lt_no]; rfl)
  have q0 := mL_md mdQ y k
  have hk2 : (mL mQ y k).2 ≤ 1000000000000000000 := hk
  have s0 := Sw_heldRelationS_val y k (by omega) (by omega) (by have hz3 : zL zQ y ≤ 68719476736 := hz; omega)
  have n0 : decide ((mL mQ y k).2 < 0) = false := decide_eq_false (by omega)
  rw [Lw_heldRelationSS_2_eq, lt_yes hi, getI_ok hi, hy, wrap_succ (by omega)]
  simp only [cond_true, Option.bind_some, bne_self_eq_false, beq_self_eq_true, Bool.not_true, cond_false, s0, n0]
noncomputable def mN (x : Nod) (k : Int) : Nod × Int := ((k, ((mL mI x.2.1.1 (k + 1)).1, (mL mI x.2.1.1 (k + 1)).2, ((mL mI x.2.1.1 (k + 1)).2 + 1).tmod 3 == 0), mtx ((mL mI x.2.1.1 (k + 1)).2 + 1 + 1), mtx ((mL mI x.2.1.1 (k + 1)).2 + 1 + 1 + 1), (mL mI x.2.2.2.2.1 ((mL mI x.2.1.1 (k + 1)).2 + 1 + 1 + 1 + 1)).1, (mL mI x.2.2.2.2.1 ((mL mI x.2.1.1 (k + 1)).2 + 1 + 1 + 1 + 1)).2, (mL mI x.2.2.2.2.1 ((mL mI x.2.1.1 (k + 1)).2 + 1 + 1 + 1 + 1)).2 + 1, (mL mI x.2.2.2.2.1 ((mL mI x.2.1.1 (k + 1)).2 + 1 + 1 + 1 + 1)).2 + 1 + 1), (mL mI x.2.2.2.2.1 ((mL mI x.2.1.1 (k + 1)).2 + 1 + 1 + 1 + 1)).2 + 1 + 1 + 1)
theorem mdN : Md mN zN := fun x k => by
  have q1 := mL_mdI x.2.1.1 (k + 1)
  have q6 := mL_mdI x.2.2.2.2.1 ((mL mI x.2.1.1 (k + 1)).2 + 1 + 1 + 1 + 1)
  have hz : zN x = zI x.2.1.1 + zB x.2.2.1 + zB x.2.2.2.1 + zI x.2.2.2.2.1 := by simp only [zN, zA] <;> omega
  unfold mN
  simp only []
  omega
theorem Sw_markNodeS_val (x : List Nod) (k : Int) (h0 : 0 ≤ k) (hk : (mL mN x k).2 ≤ 1000000000000000000) (hz : zL zN x ≤ 68719476736) : Sw_markNodeS x k = some (((mL mN x k).2, ()), (mL mN x k).1, ()) := by
  rw [Sw_markNodeS_eq]
  refine mark0 mN zN (fun y k => (mdN y k).1) (fun v k i => Lw_markNodeS_2 v k i) (fun x k => (mL_md mdN x k).1) x k h0 hk (Nat.le_trans (zL_len _ x) hz) (fun y hy => Nat.le_trans (zL_mem _ hy) hz) (fun v k i hi hl h0 hk hz => ?_) (fun v k => by rw [Lw_markNodeS_2_eq, lt_no]; rfl)
  have q1 := mL_mdI v[i].2.1.1 (k + 1)
  have q6 := mL_mdI v[i].2.2.2.2.1 ((mL mI v[i].2.1.1 (k + 1)).2 + 1 + 1 + 1 + 1)
  have hk2 : (mL mI v[i].2.2.2.2.1 ((mL mI v[i].2.1.1 (k + 1)).2 + 1 + 1 + 1 + 1)).2 + 1 + 1 + 1 ≤ 1000000000000000000 := hk
  have hz2 : zI v[i].2.1.1 + zB v[i].2.2.1 + zB v[i].2.2.2.1 + zI v[i].2.2.2.2.1 ≤ 68719476736 := by have hz3 : zN v[i] ≤ 68719476736 := hz; simp only [zN, zA] at hz3; omega
  have w0 : IntKind.i64.wrap (k + 1) = k + 1 := wrap_up (by omega) (by omega)
  have s1 := Sw_markIntS_val v[i].2.1.1 (k + 1) (by omega) (by omega) (by unfold zI at *; omega)
  have w2 : IntKind.i64.wrap ((mL mI v[i].2.1.1 (k + 1)).2 + 1) = (mL mI v[i].2.1.1 (k + 1)).2 + 1 := wrap_up (by omega) (by omega)
  have w3 : IntKind.i64.wrap ((mL mI v[i].2.1.1 (k + 1)).2 + 1 + 1) = (mL mI v[i].2.1.1 (k + 1)).2 + 1 + 1 := wrap_up (by omega) (by omega)
  have t4 := Sw_markText_val ((mL mI v[i].2.1.1 (k + 1)).2 + 1 + 1) (by omega) (by omega)
  have w4 : IntKind.i64.wrap ((mL mI v[i].2.1.1 (k + 1)).2 + 1 + 1 + 1) = (mL mI v[i].2.1.1 (k + 1)).2 + 1 + 1 + 1 := wrap_up (by omega) (by omega)
  have t5 := Sw_markText_val ((mL mI v[i].2.1.1 (k + 1)).2 + 1 + 1 + 1) (by omega) (by omega)
  have w5 : IntKind.i64.wrap ((mL mI v[i].2.1.1 (k + 1)).2 + 1 + 1 + 1 + 1) = (mL mI v[i].2.1.1 (k + 1)).2 + 1 + 1 + 1 + 1 := wrap_up (by omega) (by omega)
  have s6 := Sw_markIntS_val v[i].2.2.2.2.1 ((mL mI v[i].2.1.1 (k + 1)).2 + 1 + 1 + 1 + 1) (by omega) (by omega) (by unfold zI at *; omega)
  have w7 : IntKind.i64.wrap ((mL mI v[i].2.2.2.2.1 ((mL mI v[i].2.1.1 (k + 1)).2 + 1 + 1 + 1 + 1)).2 + 1) = (mL mI v[i].2.2.2.2.1 ((mL mI v[i].2.1.1 (k + 1)).2 + 1 + 1 + 1 + 1)).2 + 1 := wrap_up (by omega) (by omega)
  have w8 : IntKind.i64.wrap ((mL mI v[i].2.2.2.2.1 ((mL mI v[i].2.1.1 (k + 1)).2 + 1 + 1 + 1 + 1)).2 + 1 + 1) = (mL mI v[i].2.2.2.2.1 ((mL mI v[i].2.1.1 (k + 1)).2 + 1 + 1 + 1 + 1)).2 + 1 + 1 := wrap_up (by omega) (by omega)
  have w9 : IntKind.i64.wrap ((mL mI v[i].2.2.2.2.1 ((mL mI v[i].2.1.1 (k + 1)).2 + 1 + 1 + 1 + 1)).2 + 1 + 1 + 1) = (mL mI v[i].2.2.2.2.1 ((mL mI v[i].2.1.1 (k + 1)).2 + 1 + 1 + 1 + 1)).2 + 1 + 1 + 1 := wrap_up (by omega) (by omega)
  rw [Lw_markNodeS_2_eq, lt_yes hi, wrap_succ (by omega)]
  simp only [cond_true, Option.bind_some, getI_ok hi, getI_set hi, List.set_set, Int.toNat_natCast, w0, s1, w2, w3, t4, w4, t5, w5, s6, w7, w8, w9]
  try rfl
theorem Sw_heldNodeS_val (x : List Nod) (k : Int) (h0 : 0 ≤ k) (hk : (mL mN x k).2 ≤ 1000000000000000000) (hz : zL zN x ≤ 68719476736) : Sw_heldNodeS (mL mN x k).1 k = some (((mL mN x k).2, ()), ()) := by
  rw [Sw_heldNodeS_eq]
  refine held0 mN zN (fun y k => (mdN y k).1) (fun v k i => Lw_heldNodeS_2 v k i) (fun x k => (mL_md mdN x k).1) x k h0 hk (Nat.le_trans (zL_len _ x) hz) (fun y hy => Nat.le_trans (zL_mem _ hy) hz) (fun v k i hi y hy hl h0 hk hz => ?_) (fun v k => by rw [Lw_heldNodeS_2_eq, lt_no]; rfl)
  have q1 := mL_mdI y.2.1.1 (k + 1)
  have q6 := mL_mdI y.2.2.2.2.1 ((mL mI y.2.1.1 (k + 1)).2 + 1 + 1 + 1 + 1)
  have hk2 : (mL mI y.2.2.2.2.1 ((mL mI y.2.1.1 (k + 1)).2 + 1 + 1 + 1 + 1)).2 + 1 + 1 + 1 ≤ 1000000000000000000 := hk
  have hz2 : zI y.2.1.1 + zB y.2.2.1 + zB y.2.2.2.1 + zI y.2.2.2.2.1 ≤ 68719476736 := by have hz3 : zN y ≤ 68719476736 := hz; simp only [zN, zA] at hz3; omega
  have w0 : IntKind.i64.wrap (k + 1) = k + 1 := wrap_up (by omega) (by omega)
  have s1 := Sw_heldIntS_val y.2.1.1 (k + 1) (by omega) (by omega) (by unfold zI at *; omega)
  have n1 : decide ((mL mI y.2.1.1 (k + 1)).2 < 0) = false := decide_eq_false (by omega)
  have w2 : IntKind.i64.wrap ((mL mI y.2.1.1 (k + 1)).2 + 1) = (mL mI y.2.1.1 (k + 1)).2 + 1 := wrap_up (by omega) (by omega)
  have w3 : IntKind.i64.wrap ((mL mI y.2.1.1 (k + 1)).2 + 1 + 1) = (mL mI y.2.1.1 (k + 1)).2 + 1 + 1 := wrap_up (by omega) (by omega)
  have t4 := Sw_markText_val ((mL mI y.2.1.1 (k + 1)).2 + 1 + 1) (by omega) (by omega)
  have w4 : IntKind.i64.wrap ((mL mI y.2.1.1 (k + 1)).2 + 1 + 1 + 1) = (mL mI y.2.1.1 (k + 1)).2 + 1 + 1 + 1 := wrap_up (by omega) (by omega)
  have t5 := Sw_markText_val ((mL mI y.2.1.1 (k + 1)).2 + 1 + 1 + 1) (by omega) (by omega)
  have w5 : IntKind.i64.wrap ((mL mI y.2.1.1 (k + 1)).2 + 1 + 1 + 1 + 1) = (mL mI y.2.1.1 (k + 1)).2 + 1 + 1 + 1 + 1 := wrap_up (by omega) (by omega)
  have s6 := Sw_heldIntS_val y.2.2.2.2.1 ((mL mI y.2.1.1 (k + 1)).2 + 1 + 1 + 1 + 1) (by omega) (by omega) (by unfold zI at *; omega)
  have n6 : decide ((mL mI y.2.2.2.2.1 ((mL mI y.2.1.1 (k + 1)).2 + 1 + 1 + 1 + 1)).2 < 0) = false := decide_eq_false (by omega)
  have w7 : IntKind.i64.wrap ((mL mI y.2.2.2.2.1 ((mL mI y.2.1.1 (k + 1)).2 + 1 + 1 + 1 + 1)).2 + 1) = (mL mI y.2.2.2.2.1 ((mL mI y.2.1.1 (k + 1)).2 + 1 + 1 + 1 + 1)).2 + 1 := wrap_up (by omega) (by omega)
  have w8 : IntKind.i64.wrap ((mL mI y.2.2.2.2.1 ((mL mI y.2.1.1 (k + 1)).2 + 1 + 1 + 1 + 1)).2 + 1 + 1) = (mL mI y.2.2.2.2.1 ((mL mI y.2.1.1 (k + 1)).2 + 1 + 1 + 1 + 1)).2 + 1 + 1 := wrap_up (by omega) (by omega)
  have w9 : IntKind.i64.wrap ((mL mI y.2.2.2.2.1 ((mL mI y.2.1.1 (k + 1)).2 + 1 + 1 + 1 + 1)).2 + 1 + 1 + 1) = (mL mI y.2.2.2.2.1 ((mL mI y.2.1.1 (k + 1)).2 + 1 + 1 + 1 + 1)).2 + 1 + 1 + 1 := wrap_up (by omega) (by omega)
  rw [Lw_heldNodeS_2_eq, lt_yes hi, getI_ok hi, hy, wrap_succ (by omega)]
  simp only [mN, cond_true, Option.bind_some, bne_self_eq_false, beq_self_eq_true, Bool.not_true, cond_false, w0, s1, n1, w2, w3, t4, w4, t5, w5, s6, n6, w7, w8, w9]
theorem mdL_NodeS : Md (mL mN) (zL zN) := fun x k => by
  have := mL_md mdN x k
  omega
theorem Sw_markNodeSS_val (x : List (List Nod)) (k : Int) (h0 : 0 ≤ k) (hk : (mL (mL mN) x k).2 ≤ 1000000000000000000) (hz : zL (zL zN) x ≤ 68719476736) : Sw_markNodeSS x k = some (((mL (mL mN) x k).2, ()), (mL (mL mN) x k).1, ()) := by
  rw [Sw_markNodeSS_eq]
  refine mark0 (mL mN) (zL zN) (fun y k => (mdL_NodeS y k).1) (fun v k i => Lw_markNodeSS_2 v k i) (fun x k => (mL_md mdL_NodeS x k).1) x k h0 hk (Nat.le_trans (zL_len _ x) hz) (fun y hy => Nat.le_trans (zL_mem _ hy) hz) (fun v k i hi hl h0 hk hz => ?_) (fun v k => by rw [Lw_markNodeSS_2_eq, lt_no]; rfl)
  have q0 := mL_md mdN v[i] k
  have hk2 : (mL mN v[i] k).2 ≤ 1000000000000000000 := hk
  have s0 := Sw_markNodeS_val v[i] k (by omega) (by omega) (by have hz3 : zL zN v[i] ≤ 68719476736 := hz; omega)
  rw [Lw_markNodeSS_2_eq, lt_yes hi, wrap_succ (by omega)]
  simp only [cond_true, Option.bind_some, getI_ok hi, getI_set hi, List.set_set, Int.toNat_natCast, s0]
  try rfl
theorem Sw_heldNodeSS_val (x : List (List Nod)) (k : Int) (h0 : 0 ≤ k) (hk : (mL (mL mN) x k).2 ≤ 1000000000000000000) (hz : zL (zL zN) x ≤ 68719476736) : Sw_heldNodeSS (mL (mL mN) x k).1 k = some (((mL (mL mN) x k).2, ()), ()) := by
  rw [Sw_heldNodeSS_eq]
  refine held0 (mL mN) (zL zN) (fun y k => (mdL_NodeS y k).1) (fun v k i => Lw_heldNodeSS_2 v k i) (fun x k => (mL_md mdL_NodeS x k).1) x k h0 hk (Nat.le_trans (zL_len _ x) hz) (fun y hy => Nat.le_trans (zL_mem _ hy) hz) (fun v k i hi y hy hl h0 hk hz => ?_) (fun v k => by rw [Lw_heldNodeSS_2_eq, lt_no]; rfl)
  have q0 := mL_md mdN y k
  have hk2 : (mL mN y k).2 ≤ 1000000000000000000 := hk
  have s0 := Sw_heldNodeS_val y k (by omega) (by omega) (by have hz3 : zL zN y ≤ 68719476736 := hz; omega)
  have n0 : decide ((mL mN y k).2 < 0) = false := decide_eq_false (by omega)
  rw [Lw_heldNodeSS_2_eq, lt_yes hi, getI_ok hi, hy, wrap_succ (by omega)]
  simp only [cond_true, Option.bind_some, bne_self_eq_false, beq_self_eq_true, Bool.not_true, cond_false, s0, n0]
noncomputable def mP (x : Sup) (k : Int) : Sup × Int := (((k, (mL mA x.1.2 (k + 1)).1), (mL (mL mI) x.2 ((mL mA x.1.2 (k + 1)).2)).1), (mL (mL mI) x.2 ((mL mA x.1.2 (k + 1)).2)).2)
theorem mdP : Md mP zP := fun x k => by
  have q1 := mL_md mdA x.1.2 (k + 1)
  have q2 := mL_md mdL_IntS x.2 ((mL mA x.1.2 (k + 1)).2)
  have hz : zP x = zL zA x.1.2 + zL zI x.2 := by simp only [zP, zC] <;> omega
  unfold mP
  simp only []
  omega
theorem Sw_markSupportS_val (x : List Sup) (k : Int) (h0 : 0 ≤ k) (hk : (mL mP x k).2 ≤ 1000000000000000000) (hz : zL zP x ≤ 68719476736) : Sw_markSupportS x k = some (((mL mP x k).2, ()), (mL mP x k).1, ()) := by
  rw [Sw_markSupportS_eq]
  refine mark0 mP zP (fun y k => (mdP y k).1) (fun v k i => Lw_markSupportS_2 v k i) (fun x k => (mL_md mdP x k).1) x k h0 hk (Nat.le_trans (zL_len _ x) hz) (fun y hy => Nat.le_trans (zL_mem _ hy) hz) (fun v k i hi hl h0 hk hz => ?_) (fun v k => by rw [Lw_markSupportS_2_eq, lt_no]; rfl)
  have q1 := mL_md mdA v[i].1.2 (k + 1)
  have q2 := mL_md mdL_IntS v[i].2 ((mL mA v[i].1.2 (k + 1)).2)
  have hk2 : (mL (mL mI) v[i].2 ((mL mA v[i].1.2 (k + 1)).2)).2 ≤ 1000000000000000000 := hk
  have hz2 : zL zA v[i].1.2 + zL zI v[i].2 ≤ 68719476736 := by have hz3 : zP v[i] ≤ 68719476736 := hz; simp only [zP, zC] at hz3; omega
  have w0 : IntKind.i64.wrap (k + 1) = k + 1 := wrap_up (by omega) (by omega)
  have s1 := Sw_markAtomS_val v[i].1.2 (k + 1) (by omega) (by omega) (by omega)
  have s2 := Sw_markIntSS_val v[i].2 ((mL mA v[i].1.2 (k + 1)).2) (by omega) (by omega) (by omega)
  rw [Lw_markSupportS_2_eq, lt_yes hi, wrap_succ (by omega)]
  simp only [cond_true, Option.bind_some, getI_ok hi, getI_set hi, List.set_set, Int.toNat_natCast, w0, s1, s2]
  try rfl
theorem Sw_heldSupportS_val (x : List Sup) (k : Int) (h0 : 0 ≤ k) (hk : (mL mP x k).2 ≤ 1000000000000000000) (hz : zL zP x ≤ 68719476736) : Sw_heldSupportS (mL mP x k).1 k = some (((mL mP x k).2, ()), ()) := by
  rw [Sw_heldSupportS_eq]
  refine held0 mP zP (fun y k => (mdP y k).1) (fun v k i => Lw_heldSupportS_2 v k i) (fun x k => (mL_md mdP x k).1) x k h0 hk (Nat.le_trans (zL_len _ x) hz) (fun y hy => Nat.le_trans (zL_mem _ hy) hz) (fun v k i hi y hy hl h0 hk hz => ?_) (fun v k => by rw [Lw_heldSupportS_2_eq, lt_no]; rfl)
  have q1 := mL_md mdA y.1.2 (k + 1)
  have q2 := mL_md mdL_IntS y.2 ((mL mA y.1.2 (k + 1)).2)
  have hk2 : (mL (mL mI) y.2 ((mL mA y.1.2 (k + 1)).2)).2 ≤ 1000000000000000000 := hk
  have hz2 : zL zA y.1.2 + zL zI y.2 ≤ 68719476736 := by have hz3 : zP y ≤ 68719476736 := hz; simp only [zP, zC] at hz3; omega
  have w0 : IntKind.i64.wrap (k + 1) = k + 1 := wrap_up (by omega) (by omega)
  have s1 := Sw_heldAtomS_val y.1.2 (k + 1) (by omega) (by omega) (by omega)
  have n1 : decide ((mL mA y.1.2 (k + 1)).2 < 0) = false := decide_eq_false (by omega)
  have s2 := Sw_heldIntSS_val y.2 ((mL mA y.1.2 (k + 1)).2) (by omega) (by omega) (by omega)
  have n2 : decide ((mL (mL mI) y.2 ((mL mA y.1.2 (k + 1)).2)).2 < 0) = false := decide_eq_false (by omega)
  rw [Lw_heldSupportS_2_eq, lt_yes hi, getI_ok hi, hy, wrap_succ (by omega)]
  simp only [mP, cond_true, Option.bind_some, bne_self_eq_false, beq_self_eq_true, Bool.not_true, cond_false, w0, s1, n1, s2, n2]
noncomputable def mV (x : Viw) (k : Int) : Viw × Int := (((mL mN x.1 k).1, (mL mP x.2 ((mL mN x.1 k).2)).1), (mL mP x.2 ((mL mN x.1 k).2)).2)
theorem mdV : Md mV zV := fun x k => by
  have q0 := mL_md mdN x.1 k
  have q1 := mL_md mdP x.2 ((mL mN x.1 k).2)
  have hz : zV x = zL zN x.1 + zL zP x.2 := rfl
  unfold mV
  simp only []
  omega
theorem Sw_markViewS_val (x : List Viw) (k : Int) (h0 : 0 ≤ k) (hk : (mL mV x k).2 ≤ 1000000000000000000) (hz : zL zV x ≤ 68719476736) : Sw_markViewS x k = some (((mL mV x k).2, ()), (mL mV x k).1, ()) := by
  rw [Sw_markViewS_eq]
  refine mark0 mV zV (fun y k => (mdV y k).1) (fun v k i => Lw_markViewS_2 v k i) (fun x k => (mL_md mdV x k).1) x k h0 hk (Nat.le_trans (zL_len _ x) hz) (fun y hy => Nat.le_trans (zL_mem _ hy) hz) (fun v k i hi hl h0 hk hz => ?_) (fun v k => by rw [Lw_markViewS_2_eq, lt_no]; rfl)
  have q0 := mL_md mdN v[i].1 k
  have q1 := mL_md mdP v[i].2 ((mL mN v[i].1 k).2)
  have hk2 : (mL mP v[i].2 ((mL mN v[i].1 k).2)).2 ≤ 1000000000000000000 := hk
  have hz2 : zL zN v[i].1 + zL zP v[i].2 ≤ 68719476736 := by have hz3 : zV v[i] ≤ 68719476736 := hz; simp only [zV] at hz3; omega
  have s0 := Sw_markNodeS_val v[i].1 k (by omega) (by omega) (by omega)
  have s1 := Sw_markSupportS_val v[i].2 ((mL mN v[i].1 k).2) (by omega) (by omega) (by omega)
  rw [Lw_markViewS_2_eq, lt_yes hi, wrap_succ (by omega)]
  simp only [cond_true, Option.bind_some, getI_ok hi, getI_set hi, List.set_set, Int.toNat_natCast, s0, s1]
  try rfl
theorem Sw_heldViewS_val (x : List Viw) (k : Int) (h0 : 0 ≤ k) (hk : (mL mV x k).2 ≤ 1000000000000000000) (hz : zL zV x ≤ 68719476736) : Sw_heldViewS (mL mV x k).1 k = some (((mL mV x k).2, ()), ()) := by
  rw [Sw_heldViewS_eq]
  refine held0 mV zV (fun y k => (mdV y k).1) (fun v k i => Lw_heldViewS_2 v k i) (fun x k => (mL_md mdV x k).1) x k h0 hk (Nat.le_trans (zL_len _ x) hz) (fun y hy => Nat.le_trans (zL_mem _ hy) hz) (fun v k i hi y hy hl h0 hk hz => ?_) (fun v k => by rw [Lw_heldViewS_2_eq, lt_no]; rfl)
  have q0 := mL_md mdN y.1 k
  have q1 := mL_md mdP y.2 ((mL mN y.1 k).2)
  have hk2 : (mL mP y.2 ((mL mN y.1 k).2)).2 ≤ 1000000000000000000 := hk
  have hz2 : zL zN y.1 + zL zP y.2 ≤ 68719476736 := by have hz3 : zV y ≤ 68719476736 := hz; simp only [zV] at hz3; omega
  have s0 := Sw_heldNodeS_val y.1 k (by omega) (by omega) (by omega)
  have n0 : decide ((mL mN y.1 k).2 < 0) = false := decide_eq_false (by omega)
  have s1 := Sw_heldSupportS_val y.2 ((mL mN y.1 k).2) (by omega) (by omega) (by omega)
  have n1 : decide ((mL mP y.2 ((mL mN y.1 k).2)).2 < 0) = false := decide_eq_false (by omega)
  rw [Lw_heldViewS_2_eq, lt_yes hi, getI_ok hi, hy, wrap_succ (by omega)]
  simp only [mV, cond_true, Option.bind_some, bne_self_eq_false, beq_self_eq_true, Bool.not_true, cond_false, s0, n0, s1, n1]
noncomputable def mO (x : Opn) (k : Int) : Opn × Int := ((k, mtx (k + 1), mtx (k + 1 + 1), (k + 1 + 1 + 1, (mL mA x.2.2.2.1.2 (k + 1 + 1 + 1 + 1)).1), (mL mI x.2.2.2.2 ((mL mA x.2.2.2.1.2 (k + 1 + 1 + 1 + 1)).2)).1), (mL mI x.2.2.2.2 ((mL mA x.2.2.2.1.2 (k + 1 + 1 + 1 + 1)).2)).2)
theorem mdO : Md mO zO := fun x k => by
  have q4 := mL_md mdA x.2.2.2.1.2 (k + 1 + 1 + 1 + 1)
  have q5 := mL_mdI x.2.2.2.2 ((mL mA x.2.2.2.1.2 (k + 1 + 1 + 1 + 1)).2)
  have hz : zO x = zB x.2.1 + zB x.2.2.1 + zL zA x.2.2.2.1.2 + zI x.2.2.2.2 := by simp only [zO, zC] <;> omega
  unfold mO
  simp only []
  omega
theorem Sw_markOpS_val (x : List Opn) (k : Int) (h0 : 0 ≤ k) (hk : (mL mO x k).2 ≤ 1000000000000000000) (hz : zL zO x ≤ 68719476736) : Sw_markOpS x k = some (((mL mO x k).2, ()), (mL mO x k).1, ()) := by
  rw [Sw_markOpS_eq]
  refine mark0 mO zO (fun y k => (mdO y k).1) (fun v k i => Lw_markOpS_2 v k i) (fun x k => (mL_md mdO x k).1) x k h0 hk (Nat.le_trans (zL_len _ x) hz) (fun y hy => Nat.le_trans (zL_mem _ hy) hz) (fun v k i hi hl h0 hk hz => ?_) (fun v k => by rw [Lw_markOpS_2_eq, lt_no]; rfl)
  have q4 := mL_md mdA v[i].2.2.2.1.2 (k + 1 + 1 + 1 + 1)
  have q5 := mL_mdI v[i].2.2.2.2 ((mL mA v[i].2.2.2.1.2 (k + 1 + 1 + 1 + 1)).2)
  have hk2 : (mL mI v[i].2.2.2.2 ((mL mA v[i].2.2.2.1.2 (k + 1 + 1 + 1 + 1)).2)).2 ≤ 1000000000000000000 := hk
  have hz2 : zB v[i].2.1 + zB v[i].2.2.1 + zL zA v[i].2.2.2.1.2 + zI v[i].2.2.2.2 ≤ 68719476736 := by have hz3 : zO v[i] ≤ 68719476736 := hz; simp only [zO, zC] at hz3; omega
  have w0 : IntKind.i64.wrap (k + 1) = k + 1 := wrap_up (by omega) (by omega)
  have t1 := Sw_markText_val (k + 1) (by omega) (by omega)
  have w1 : IntKind.i64.wrap (k + 1 + 1) = k + 1 + 1 := wrap_up (by omega) (by omega)
  have t2 := Sw_markText_val (k + 1 + 1) (by omega) (by omega)
  have w2 : IntKind.i64.wrap (k + 1 + 1 + 1) = k + 1 + 1 + 1 := wrap_up (by omega) (by omega)
  have w3 : IntKind.i64.wrap (k + 1 + 1 + 1 + 1) = k + 1 + 1 + 1 + 1 := wrap_up (by omega) (by omega)
  have s4 := Sw_markAtomS_val v[i].2.2.2.1.2 (k + 1 + 1 + 1 + 1) (by omega) (by omega) (by omega)
  have s5 := Sw_markIntS_val v[i].2.2.2.2 ((mL mA v[i].2.2.2.1.2 (k + 1 + 1 + 1 + 1)).2) (by omega) (by omega) (by unfold zI at *; omega)
  rw [Lw_markOpS_2_eq, lt_yes hi, wrap_succ (by omega)]
  simp only [cond_true, Option.bind_some, getI_ok hi, getI_set hi, List.set_set, Int.toNat_natCast, w0, t1, w1, t2, w2, w3, s4, s5]
  try rfl
theorem Sw_heldOpS_val (x : List Opn) (k : Int) (h0 : 0 ≤ k) (hk : (mL mO x k).2 ≤ 1000000000000000000) (hz : zL zO x ≤ 68719476736) : Sw_heldOpS (mL mO x k).1 k = some (((mL mO x k).2, ()), ()) := by
  rw [Sw_heldOpS_eq]
  refine held0 mO zO (fun y k => (mdO y k).1) (fun v k i => Lw_heldOpS_2 v k i) (fun x k => (mL_md mdO x k).1) x k h0 hk (Nat.le_trans (zL_len _ x) hz) (fun y hy => Nat.le_trans (zL_mem _ hy) hz) (fun v k i hi y hy hl h0 hk hz => ?_) (fun v k => by rw [Lw_heldOpS_2_eq, lt_no]; rfl)
  have q4 := mL_md mdA y.2.2.2.1.2 (k + 1 + 1 + 1 + 1)
  have q5 := mL_mdI y.2.2.2.2 ((mL mA y.2.2.2.1.2 (k + 1 + 1 + 1 + 1)).2)
  have hk2 : (mL mI y.2.2.2.2 ((mL mA y.2.2.2.1.2 (k + 1 + 1 + 1 + 1)).2)).2 ≤ 1000000000000000000 := hk
  have hz2 : zB y.2.1 + zB y.2.2.1 + zL zA y.2.2.2.1.2 + zI y.2.2.2.2 ≤ 68719476736 := by have hz3 : zO y ≤ 68719476736 := hz; simp only [zO, zC] at hz3; omega
  have w0 : IntKind.i64.wrap (k + 1) = k + 1 := wrap_up (by omega) (by omega)
  have t1 := Sw_markText_val (k + 1) (by omega) (by omega)
  have w1 : IntKind.i64.wrap (k + 1 + 1) = k + 1 + 1 := wrap_up (by omega) (by omega)
  have t2 := Sw_markText_val (k + 1 + 1) (by omega) (by omega)
  have w2 : IntKind.i64.wrap (k + 1 + 1 + 1) = k + 1 + 1 + 1 := wrap_up (by omega) (by omega)
  have w3 : IntKind.i64.wrap (k + 1 + 1 + 1 + 1) = k + 1 + 1 + 1 + 1 := wrap_up (by omega) (by omega)
  have s4 := Sw_heldAtomS_val y.2.2.2.1.2 (k + 1 + 1 + 1 + 1) (by omega) (by omega) (by omega)
  have n4 : decide ((mL mA y.2.2.2.1.2 (k + 1 + 1 + 1 + 1)).2 < 0) = false := decide_eq_false (by omega)
  have s5 := Sw_heldIntS_val y.2.2.2.2 ((mL mA y.2.2.2.1.2 (k + 1 + 1 + 1 + 1)).2) (by omega) (by omega) (by unfold zI at *; omega)
  have n5 : decide ((mL mI y.2.2.2.2 ((mL mA y.2.2.2.1.2 (k + 1 + 1 + 1 + 1)).2)).2 < 0) = false := decide_eq_false (by omega)
  rw [Lw_heldOpS_2_eq, lt_yes hi, getI_ok hi, hy, wrap_succ (by omega)]
  simp only [mO, cond_true, Option.bind_some, bne_self_eq_false, beq_self_eq_true, Bool.not_true, cond_false, w0, t1, w1, t2, w2, w3, s4, n4, s5, n5]
noncomputable def tS (x : Sto) (k : Int) : Sto × Int := (((mL (mL mN) x.1 k).1, (mL (mL mQ) x.2 ((mL (mL mN) x.1 k).2)).1), (mL (mL mQ) x.2 ((mL (mL mN) x.1 k).2)).2)
theorem tdS (x : Sto) (k : Int) : k ≤ (tS x k).2 ∧ (tS x k).2 ≤ k + 12 * zS x := by
  have q0 := mL_md mdL_NodeS x.1 k
  have q1 := mL_md mdL_RelationS x.2 ((mL (mL mN) x.1 k).2)
  have hz : zS x = zL (zL zN) x.1 + zL (zL zQ) x.2 := rfl
  unfold tS
  simp only []
  omega
theorem Sw_markStore_val (x : Sto) (k : Int) (h0 : 0 ≤ k) (hk : (tS x k).2 ≤ 1000000000000000000) (hz : zS x ≤ 68719476736) : Sw_markStore x k = some (((tS x k).2, ()), (tS x k).1, ()) := by
  have q0 := mL_md mdL_NodeS x.1 k
  have q1 := mL_md mdL_RelationS x.2 ((mL (mL mN) x.1 k).2)
  have hk2 : (mL (mL mQ) x.2 ((mL (mL mN) x.1 k).2)).2 ≤ 1000000000000000000 := hk
  have hz2 : zL (zL zN) x.1 + zL (zL zQ) x.2 ≤ 68719476736 := hz
  have s0 := Sw_markNodeSS_val x.1 k (by omega) (by omega) (by omega)
  have s1 := Sw_markRelationSS_val x.2 ((mL (mL mN) x.1 k).2) (by omega) (by omega) (by omega)
  rw [Sw_markStore_eq]
  simp only [tS, Option.bind_some, cond_false, s0, s1]
theorem Sw_heldStore_val (x : Sto) (k : Int) (h0 : 0 ≤ k) (hk : (tS x k).2 ≤ 1000000000000000000) (hz : zS x ≤ 68719476736) : Sw_heldStore (tS x k).1 k = some (((tS x k).2, ()), ()) := by
  have q0 := mL_md mdL_NodeS x.1 k
  have q1 := mL_md mdL_RelationS x.2 ((mL (mL mN) x.1 k).2)
  have hk2 : (mL (mL mQ) x.2 ((mL (mL mN) x.1 k).2)).2 ≤ 1000000000000000000 := hk
  have hz2 : zL (zL zN) x.1 + zL (zL zQ) x.2 ≤ 68719476736 := hz
  have s0 := Sw_heldNodeSS_val x.1 k (by omega) (by omega) (by omega)
  have n0 : decide ((mL (mL mN) x.1 k).2 < 0) = false := decide_eq_false (by omega)
  have s1 := Sw_heldRelationSS_val x.2 ((mL (mL mN) x.1 k).2) (by omega) (by omega) (by omega)
  have n1 : decide ((mL (mL mQ) x.2 ((mL (mL mN) x.1 k).2)).2 < 0) = false := decide_eq_false (by omega)
  rw [Sw_heldStore_eq]
  simp only [tS, Option.bind_some, cond_false, s0, n0, s1, n1]
noncomputable def tH (x : Hou) (k : Int) : Hou × Int := (((tS x.1 k).1, x.2.1, (mL mO x.2.2.1 ((tS x.1 k).2)).1, (mL mTx x.2.2.2.1 ((mL mO x.2.2.1 ((tS x.1 k).2)).2)).1, (mL mV x.2.2.2.2 ((mL mTx x.2.2.2.1 ((mL mO x.2.2.1 ((tS x.1 k).2)).2)).2)).1), (mL mV x.2.2.2.2 ((mL mTx x.2.2.2.1 ((mL mO x.2.2.1 ((tS x.1 k).2)).2)).2)).2)
theorem tdH (x : Hou) (k : Int) : k ≤ (tH x k).2 ∧ (tH x k).2 ≤ k + 12 * zH x := by
  have q0 := tdS x.1 k
  have q1 := mL_md mdO x.2.2.1 ((tS x.1 k).2)
  have q2 := mL_md mdTx x.2.2.2.1 ((mL mO x.2.2.1 ((tS x.1 k).2)).2)
  have q3 := mL_md mdV x.2.2.2.2 ((mL mTx x.2.2.2.1 ((mL mO x.2.2.1 ((tS x.1 k).2)).2)).2)
  have hz : zH x = zS x.1 + zL zO x.2.2.1 + zL zB x.2.2.2.1 + zL zV x.2.2.2.2 := rfl
  unfold tH
  simp only []
  omega
theorem Sw_markHouse_val (x : Hou) (k : Int) (h0 : 0 ≤ k) (hk : (tH x k).2 ≤ 1000000000000000000) (hz : zH x ≤ 68719476736) : Sw_markHouse x k = some (((tH x k).2, ()), (tH x k).1, ()) := by
  have q0 := tdS x.1 k
  have q1 := mL_md mdO x.2.2.1 ((tS x.1 k).2)
  have q2 := mL_md mdTx x.2.2.2.1 ((mL mO x.2.2.1 ((tS x.1 k).2)).2)
  have q3 := mL_md mdV x.2.2.2.2 ((mL mTx x.2.2.2.1 ((mL mO x.2.2.1 ((tS x.1 k).2)).2)).2)
  have hk2 : (mL mV x.2.2.2.2 ((mL mTx x.2.2.2.1 ((mL mO x.2.2.1 ((tS x.1 k).2)).2)).2)).2 ≤ 1000000000000000000 := hk
  have hz2 : zS x.1 + zL zO x.2.2.1 + zL zB x.2.2.2.1 + zL zV x.2.2.2.2 ≤ 68719476736 := hz
  have s0 := Sw_markStore_val x.1 k (by omega) (by omega) (by omega)
  have s1 := Sw_markOpS_val x.2.2.1 ((tS x.1 k).2) (by omega) (by omega) (by omega)
  have s2 := Sw_markStringS_val x.2.2.2.1 ((mL mO x.2.2.1 ((tS x.1 k).2)).2) (by omega) (by omega) (by omega)
  have s3 := Sw_markViewS_val x.2.2.2.2 ((mL mTx x.2.2.2.1 ((mL mO x.2.2.1 ((tS x.1 k).2)).2)).2) (by omega) (by omega) (by omega)
  rw [Sw_markHouse_eq]
  simp only [tH, Option.bind_some, cond_false, s0, s1, s2, s3]
theorem Sw_heldHouse_val (x : Hou) (k : Int) (h0 : 0 ≤ k) (hk : (tH x k).2 ≤ 1000000000000000000) (hz : zH x ≤ 68719476736) : Sw_heldHouse (tH x k).1 k = some (((tH x k).2, ()), ()) := by
  have q0 := tdS x.1 k
  have q1 := mL_md mdO x.2.2.1 ((tS x.1 k).2)
  have q2 := mL_md mdTx x.2.2.2.1 ((mL mO x.2.2.1 ((tS x.1 k).2)).2)
  have q3 := mL_md mdV x.2.2.2.2 ((mL mTx x.2.2.2.1 ((mL mO x.2.2.1 ((tS x.1 k).2)).2)).2)
  have hk2 : (mL mV x.2.2.2.2 ((mL mTx x.2.2.2.1 ((mL mO x.2.2.1 ((tS x.1 k).2)).2)).2)).2 ≤ 1000000000000000000 := hk
  have hz2 : zS x.1 + zL zO x.2.2.1 + zL zB x.2.2.2.1 + zL zV x.2.2.2.2 ≤ 68719476736 := hz
  have s0 := Sw_heldStore_val x.1 k (by omega) (by omega) (by omega)
  have n0 : decide ((tS x.1 k).2 < 0) = false := decide_eq_false (by omega)
  have s1 := Sw_heldOpS_val x.2.2.1 ((tS x.1 k).2) (by omega) (by omega) (by omega)
  have n1 : decide ((mL mO x.2.2.1 ((tS x.1 k).2)).2 < 0) = false := decide_eq_false (by omega)
  have s2 := Sw_heldStringS_val x.2.2.2.1 ((mL mO x.2.2.1 ((tS x.1 k).2)).2) (by omega) (by omega) (by omega)
  have n2 : decide ((mL mTx x.2.2.2.1 ((mL mO x.2.2.1 ((tS x.1 k).2)).2)).2 < 0) = false := decide_eq_false (by omega)
  have s3 := Sw_heldViewS_val x.2.2.2.2 ((mL mTx x.2.2.2.1 ((mL mO x.2.2.1 ((tS x.1 k).2)).2)).2) (by omega) (by omega) (by omega)
  have n3 : decide ((mL mV x.2.2.2.2 ((mL mTx x.2.2.2.1 ((mL mO x.2.2.1 ((tS x.1 k).2)).2)).2)).2 < 0) = false := decide_eq_false (by omega)
  rw [Sw_heldHouse_eq]
  simp only [tH, Option.bind_some, cond_false, s0, n0, s1, n1, s2, n2, s3, n3]

/-! ### bounds -/
/-! ### words -/
theorem getB_ok {x : ByteArray} {i : Nat} (h : i < x.data.toList.length) : getB x (i : Int) = some ((x.data.toList[i].toNat : Nat) : Int) := by
  unfold getB
  rw [if_pos (by omega)]
  have h' : i < x.size := by simpa using h
  simp only [Int.toNat_natCast]
  rw [show x[i]? = some x[i] from getElem?_pos x i h']
  simp only [Option.map_some]
  congr 3
def wordB (x : ByteArray) (a b : Int) : Bool := x.data.toList.all (fun c => !(decide (((c.toNat : Nat) : Int) < a)) && !(decide (((c.toNat : Nat) : Int) > b))) && (decide (1 ≤ (x.size : Int)) && decide ((x.size : Int) ≤ 6))
theorem size_is (x : ByteArray) : x.size = x.data.toList.length := by simp
theorem Si_isWord_val (x : ByteArray) (a b : Int) : Si_isWord x a b = some ((wordB x a b, ()), ()) := by
  rw [Si_isWord_eq]
  unfold wordB
  by_cases h1 : (x.size : Int) < 1
  · have : ¬ (1 ≤ (x.size : Int)) := by omega
    simp [h1, this]
  · by_cases h2 : (x.size : Int) > 6
    · have : ¬ ((x.size : Int) ≤ 6) := by omega
      simp only [h1, h2, decide_false, decide_true, cond_false, cond_true, this, Bool.and_false]
    · have e1 : 1 ≤ (x.size : Int) := by omega
      have e2 : (x.size : Int) ≤ 6 := by omega
      simp only [h1, h2, decide_false, cond_false, e1, e2, decide_true, Bool.and_self, Bool.and_true]
      have := all_loop x.data.toList (fun c => !(decide (((c.toNat : Nat) : Int) < a)) && !(decide (((c.toNat : Nat) : Int) > b))) (some ((false, ()), ())) (some ((true, ()), ())) (fun i => Li_isWord_4 x a b i) (by rw [← size_is]; omega) (fun i hi => by
        have hb : i < x.size := by rw [size_is]; exact hi
        rw [Li_isWord_4_eq, getB_ok hi, wrap_succ (by omega)]
        simp only [lt_yes hb, cond_true, Option.bind_some]
        cases decide (((x.data.toList[i].toNat : Nat) : Int) < a) <;> cases decide (((x.data.toList[i].toNat : Nat) : Int) > b) <;> rfl) (by rw [Li_isWord_4_eq, ← size_is, lt_no]; rfl) x.data.toList.length 0 (by omega)
      simp only [List.drop_zero, Int.natCast_zero] at this
      rw [show Li_isWord_4 x a b 0 = _ from this]
      cases x.data.toList.all _ <;> rfl
theorem Si_isName_val (x : ByteArray) : Si_isName x = some ((wordB x 65 90, ()), ()) := by
  rw [Si_isName_eq, Si_isWord_val]; rfl
theorem Si_isLabel_val (x : ByteArray) : Si_isLabel x = some ((wordB x 97 122, ()), ()) := by
  rw [Si_isLabel_eq, Si_isWord_val]; rfl


/-! ### numbers -/
def numB (a : Int) : Bool := decide (-400000000 ≤ a) && decide (a ≤ 400000000)
theorem Si_IsNumber_val (a : Int) : Si_IsNumber a = some ((numB a, ()), ()) := by
  rw [Si_IsNumber_eq]
  unfold numB
  by_cases h : a ≥ -400000000
  · simp [h]
  · simp [h]
theorem Si_absolute_val {a : Int} (h : numB a = true) : Si_absolute a = some (((a.natAbs : Int), ()), ()) := by
  simp only [numB, Bool.and_eq_true, decide_eq_true_eq] at h
  rw [Si_absolute_eq]
  by_cases h0 : a < 0
  · simp only [h0, decide_true, cond_true]
    rw [wrap_id (by omega) (by omega)]
    congr 3; omega
  · simp only [h0, decide_false, cond_false]
    congr 3; omega
theorem Si_absolute_nat (a : Nat) : Si_absolute (a : Int) = some (((a : Int), ()), ()) := by
  rw [Si_absolute_eq]
  have : decide ((a : Int) < 0) = false := by simp
  rw [this, cond_false]
theorem L114_val : ∀ (n : Nat) (a b : Int), b.natAbs ≤ n → 0 ≤ a → 0 ≤ b → Li_commonDivisor_2 a b = some ((((Nat.gcd a.natAbs b.natAbs : Nat) : Int), ()), ())
  | n, a, b, hn, ha, hb => by
    rw [Li_commonDivisor_2_eq]
    by_cases h0 : b = 0
    · subst h0
      simp only [bne_self_eq_false, cond_false]
      simp
      omega
    · have : (b != 0) = true := by simpa using h0
      rw [this, cond_true, cond_true]
      have hlt : a.natAbs % b.natAbs < b.natAbs := Nat.mod_lt _ (by omega)
      have hm := Int.natAbs_tmod a b
      cases n with
      | zero => omega
      | succ n =>
        rw [L114_val n b (Int.tmod a b) (by omega) hb (Int.tmod_nonneg _ ha), hm]
        congr 4
        rw [Nat.gcd_comm a.natAbs, Nat.gcd_rec b.natAbs a.natAbs, Nat.gcd_comm]
  termination_by n => n
theorem Si_commonDivisor_val (a : Nat) {b : Int} (hb : numB b = true) : Si_commonDivisor (a : Int) b = some ((((Nat.gcd a b.natAbs : Nat) : Int), ()), ()) := by
  rw [Si_commonDivisor_eq, Si_absolute_nat, Si_absolute_val hb]
  simp only [Option.bind_some]
  rw [L114_val _ _ _ (Nat.le_refl _) (by omega) (by omega)]
  simp
/-- The greatest common divisor of a number and a row. -/
def gl (x : List Int) (g : Nat) : Nat := x.foldl (fun g y => Nat.gcd g y.natAbs) g
theorem gl_gcd : ∀ (x : List Int) (g h : Nat), gl x (Nat.gcd g h) = Nat.gcd (gl x g) h
  | [], _, _ => rfl
  | y :: x, g, h => by
    change gl x (Nat.gcd (Nat.gcd g h) y.natAbs) = Nat.gcd (gl x (Nat.gcd g y.natAbs)) h
    rw [show Nat.gcd (Nat.gcd g h) y.natAbs = Nat.gcd (Nat.gcd g y.natAbs) h by rw [Nat.gcd_assoc, Nat.gcd_comm h, ← Nat.gcd_assoc], gl_gcd x]
theorem gl_is (x : List Int) (k : Nat) : gl x k = Nat.gcd (gl x 0) k := by
  rw [← gl_gcd, Nat.gcd_zero_left]
theorem Li_divisorOf_3_val (x : List Int) (hl : x.length ≤ 68719476736) (hx : ∀ y ∈ x, numB y = true) : ∀ (n i g : Nat), n + i = x.length → Li_divisorOf_3 x (g : Int) x (x.length : Int) (i : Int) = some ((((gl (x.drop i) g : Nat) : Int), ()), ())
  | 0, i, g, hn => by
    obtain rfl : i = x.length := by omega
    rw [Li_divisorOf_3_eq, lt_no, List.drop_eq_nil_of_le (by omega)]
    rfl
  | n + 1, i, g, hn => by
    have hi : i < x.length := by omega
    rw [Li_divisorOf_3_eq, lt_yes hi, getI_ok hi, cond_true, Option.bind_some, Si_commonDivisor_val _ (hx _ (List.getElem_mem hi)), Option.bind_some, wrap_succ (by omega), Li_divisorOf_3_val x hl hx n (i + 1) _ (by omega), List.drop_eq_getElem_cons hi]
    rfl
theorem Si_divisorOf_val (x : List Int) (hl : x.length ≤ 68719476736) (hx : ∀ y ∈ x, numB y = true) : Si_divisorOf x = some ((((gl x 0 : Nat) : Int), ()), ()) := by
  rw [Si_divisorOf_eq]
  have := Li_divisorOf_3_val x hl hx x.length 0 0 (by omega)
  simpa using this

/-! ### atoms -/
def atomB (a : Atm) : Bool := !(decide ((a.1.length : Int) > 4)) && (numB a.2.1 && (a.1.all numB && decide (((gl a.1 a.2.1.natAbs : Nat) : Int) ≤ 1)))
theorem Si_IsAtom_val (a : Atm) : Si_IsAtom a = some ((atomB a, ()), ()) := by
  rw [Si_IsAtom_eq, Si_IsNumber_val]
  unfold atomB
  cases h : decide ((a.1.length : Int) > 4) with
  | true => rfl
  | false =>
    have hl : a.1.length ≤ 68719476736 := by simp at h; omega
    simp only [cond_false, Option.bind_some, Bool.not_false, Bool.true_and]
    cases hk : numB a.2.1 with
    | false => rfl
    | true =>
      simp only [Bool.not_true, cond_false, Bool.true_and]
      have := all_loop a.1 numB (some ((false, ()), ())) (Li_IsAtom_4 a a.1 (a.1.length : Int) (a.1.length : Int)) (fun i => Li_IsAtom_4 a a.1 (a.1.length : Int) i) hl (fun i hi => by
        rw [Li_IsAtom_4_eq, getI_ok hi, wrap_succ (by omega)]
        simp only [lt_yes hi, cond_true, Option.bind_some, Si_IsNumber_val]
        cases numB a.1[i] <;> rfl) rfl a.1.length 0 (by omega)
      simp only [List.drop_zero, Int.natCast_zero] at this
      rw [show Li_IsAtom_4 a a.1 (a.1.length : Int) 0 = _ from this]
      cases ha : a.1.all numB with
      | false => rfl
      | true =>
        rw [cond_true, Li_IsAtom_4_eq, lt_no, cond_false, Si_divisorOf_val a.1 hl (List.all_eq_true.1 ha), Option.bind_some, Si_commonDivisor_val _ hk, Option.bind_some, ← gl_is]
        rfl

/-! ### cells -/
def cellB (c : Cel) : Bool := c.2.all (fun a => atomB a && !((a.1.length : Int) != c.1)) && (decide (0 ≤ c.1) && decide (c.1 ≤ 4) && decide ((c.2.length : Int) ≤ 16))
theorem Si_IsCell_val (c : Cel) : Si_IsCell c = some ((cellB c, ()), ()) := by
  rw [Si_IsCell_eq]
  unfold cellB
  by_cases h1 : c.1 < 0
  · have : ¬ (0 ≤ c.1) := by omega
    simp [h1, this]
  by_cases h2 : c.1 > 4
  · have : ¬ (c.1 ≤ 4) := by omega
    simp [h1, h2, this]
  by_cases h3 : (c.2.length : Int) > 16
  · have : ¬ ((c.2.length : Int) ≤ 16) := by omega
    simp only [h1, h2, h3, this, decide_false, decide_true, cond_false, cond_true, Bool.and_false]
  · have e1 : 0 ≤ c.1 := by omega
    have e2 : c.1 ≤ 4 := by omega
    have e3 : (c.2.length : Int) ≤ 16 := by omega
    simp only [h1, h2, h3, e1, e2, e3, decide_false, decide_true, cond_false, Bool.and_self, Bool.and_true]
    have := all_loop c.2 (fun a => atomB a && !((a.1.length : Int) != c.1)) (some ((false, ()), ())) (some ((true, ()), ())) (fun i => Li_IsCell_4 c c.2 (c.2.length : Int) i) (by omega) (fun i hi => by
      rw [Li_IsCell_4_eq, getI_ok hi, wrap_succ (by omega)]
      simp only [lt_yes hi, cond_true, Option.bind_some, Si_IsAtom_val]
      cases atomB c.2[i] <;> cases ((c.2[i].1.length : Int) != c.1) <;> rfl) (by rw [Li_IsCell_4_eq, lt_no]; rfl) c.2.length 0 (by omega)
    simp only [List.drop_zero, Int.natCast_zero] at this
    rw [show Li_IsCell_4 c c.2 (c.2.length : Int) 0 = _ from this]
    cases c.2.all _ <;> rfl

/-! ### relations -/
def rowB (d : Int) (r : Rw) : Bool := wordB r.1 97 122 && (cellB r.2 && !(r.2.1 != d))
def relB (r : Rel) : Bool := wordB r.1 65 90 && (decide (0 ≤ r.2.1) && decide (r.2.1 ≤ 4) && (decide ((r.2.2.length : Int) ≤ 8) && r.2.2.all (rowB r.2.1)))
theorem Si_IsRelation_val (r : Rel) : Si_IsRelation r = some ((relB r, ()), ()) := by
  rw [Si_IsRelation_eq, Si_isName_val]
  unfold relB
  cases wordB r.1 65 90 with
  | false => rfl
  | true =>
    simp only [Option.bind_some, Bool.not_true, cond_false, Bool.true_and]
    by_cases h1 : r.2.1 < 0
    · have : ¬ (0 ≤ r.2.1) := by omega
      simp [h1, this]
    by_cases h2 : r.2.1 > 4
    · have : ¬ (r.2.1 ≤ 4) := by omega
      simp [h1, h2, this]
    by_cases h3 : (r.2.2.length : Int) > 8
    · have : ¬ ((r.2.2.length : Int) ≤ 8) := by omega
      simp only [h1, h2, h3, this, decide_false, decide_true, cond_false, cond_true, Bool.and_false, Bool.false_and]
    · have e1 : 0 ≤ r.2.1 := by omega
      have e2 : r.2.1 ≤ 4 := by omega
      have e3 : (r.2.2.length : Int) ≤ 8 := by omega
      simp only [h1, h2, h3, e1, e2, e3, decide_false, decide_true, cond_false, Bool.and_self, Bool.true_and]
      have := all_loop r.2.2 (rowB r.2.1) (some ((false, ()), ())) (some ((true, ()), ())) (fun i => Li_IsRelation_4 r r.2.2 (r.2.2.length : Int) i) (by omega) (fun i hi => by
        rw [Li_IsRelation_4_eq, getI_ok hi, wrap_succ (by omega)]
        simp only [lt_yes hi, cond_true, Option.bind_some, Si_isLabel_val, Si_IsCell_val]
        unfold rowB
        cases wordB r.2.2[i].1 97 122 <;> cases cellB r.2.2[i].2 <;> cases (r.2.2[i].2.1 != r.2.1) <;> rfl) (by rw [Li_IsRelation_4_eq, lt_no]; rfl) r.2.2.length 0 (by omega)
      simp only [List.drop_zero, Int.natCast_zero] at this
      rw [show Li_IsRelation_4 r r.2.2 (r.2.2.length : Int) 0 = _ from this]
      cases r.2.2.all _ <;> rfl

/-! ### the relations together -/
def named (n : ByteArray) (r : Rel) : Bool := r.1.toList == n.toList
theorem Si_FindRelation_val (x : List Rel) (n : ByteArray) (hl : x.length ≤ 68719476736) : Si_FindRelation x n = some ((findB (named n) x, ()), ()) := by
  rw [Si_FindRelation_eq]
  exact find_loop x (named n) (fun i => some ((i, ()), ())) (fun i => Li_FindRelation_2 x n x (x.length : Int) i) (fun i hi => by
    rw [Li_FindRelation_2_eq, getI_ok hi, wrap_succ (by omega)]
    simp only [lt_yes hi, cond_true, Option.bind_some]
    rfl) (by rw [Li_FindRelation_2_eq, lt_no]; rfl) x.length 0 (by omega) (fun j _ h => by omega)
theorem findB_take {α : Type} (p : α → Bool) (x : List α) (i : Nat) (hi : i < x.length) (hp : p x[i] = true) : decide (findB p (x.take i) ≥ 0) = (findB p x != (i : Int)) := by
  have h1 : x.findIdx p ≤ i := Nat.le_of_not_lt fun h => by
    have := List.not_of_lt_findIdx h
    rw [hp] at this
    cases this
  have h2 : (x.take i).findIdx p = min i (x.findIdx p) := List.findIdx_take
  have h3 : (x.take i).length = i := by simp; omega
  unfold findB
  rw [h2, h3, if_pos (by omega : x.findIdx p < x.length)]
  by_cases h : x.findIdx p = i
  · rw [if_neg (by omega), h]
    simp
  · rw [if_pos (by omega)]
    have e1 : ((x.findIdx p : Nat) : Int) ≠ (i : Int) := by omega
    have e2 : ((min i (x.findIdx p) : Nat) : Int) ≥ 0 := by omega
    simp [e1, e2]
def allN (p : Nat → Bool) : Nat → Nat → Bool
  | 0, _ => true
  | n + 1, i => p i && allN p n (i + 1)
theorem idx_loop {R : Type} (l : Nat) (p : Nat → Bool) (F E : Option R) (f : Int → Option R)
    (h1 : ∀ (i : Nat), i < l → f (i : Int) = bif p i then f ((i + 1 : Nat) : Int) else F) (h2 : f (l : Int) = E) :
    ∀ (n i : Nat), n + i = l → f (i : Int) = bif allN p n i then E else F
  | 0, i, hn => by
    obtain rfl : i = l := by omega
    rw [h2]; rfl
  | n + 1, i, hn => by
    rw [h1 i (by omega), idx_loop l p F E f h1 h2 n (i + 1) (by omega)]
    cases h : p i <;> simp [allN, h]
def dbP (x : List Rel) (i : Nat) : Bool := match x[i]? with
  | some r => relB r && !(decide (findB (named r.1) (x.take i) ≥ 0))
  | none => true
def dbB (x : List Rel) : Bool := allN (dbP x) x.length 0 && decide ((x.length : Int) ≤ 6)
theorem Si_IsDatabase_val (x : List Rel) : Si_IsDatabase x = some ((dbB x, ()), ()) := by
  rw [Si_IsDatabase_eq]
  unfold dbB
  by_cases h : (x.length : Int) > 6
  · have : ¬ ((x.length : Int) ≤ 6) := by omega
    simp only [h, this, decide_true, decide_false, cond_true, Bool.and_false]
  · have e : (x.length : Int) ≤ 6 := by omega
    simp only [h, e, decide_true, decide_false, cond_false, Bool.and_true]
    have := idx_loop x.length (dbP x) (some ((false, ()), ())) (some ((true, ()), ())) (fun i => Li_IsDatabase_4 x x (x.length : Int) i) (fun i hi => by
      rw [Li_IsDatabase_4_eq, getI_ok hi, wrap_succ (by omega)]
      simp only [lt_yes hi, cond_true, Option.bind_some, Si_IsRelation_val, Si_FindRelation_val _ _ (show x.length ≤ 68719476736 by omega)]
      unfold dbP
      rw [List.getElem?_eq_getElem hi]
      simp only []
      rw [findB_take _ x i hi (by simp [named])]
      cases relB x[i] <;> cases (findB (named x[i].1) x != (i : Int)) <;> rfl) (by rw [Li_IsDatabase_4_eq, lt_no]; rfl) x.length 0 (by omega)
    simp only [Int.natCast_zero] at this
    rw [show Li_IsDatabase_4 x x (x.length : Int) 0 = _ from this]
    cases allN (dbP x) x.length 0 <;> rfl

/-! ### formulas -/
/-! ### lists of nodes: what waits is a stack, the last one first -/
/-! ### bounds from counts -/
/-! ### formulas without negations -/
/-! ### views -/
/-! ### free variables -/
/-! ### the reference -/
/-! ### free variables: the whole list -/
/-! ### the program -/
/-! ### a new store -/
def mkDb (ns : List ByteArray) (ds : List Int) : List Rel := List.zipWith (fun n d => (n, d, [])) ns ds
theorem mkDb_len {ns : List ByteArray} {ds : List Int} (h : ns.length = ds.length) : (mkDb ns ds).length = ns.length := by
  unfold mkDb; rw [List.length_zipWith]; omega
theorem mkDb_take {ns : List ByteArray} {ds : List Int} {i : Nat} (h : ns.length = ds.length) (hi : i < ns.length) : (mkDb ns ds).take (i + 1) = (mkDb ns ds).take i ++ [(ns[i], ds[i]'(by omega), [])] := by
  rw [List.take_add_one]
  have : (mkDb ns ds)[i]? = some (ns[i], ds[i]'(by omega), []) := by
    unfold mkDb
    rw [List.getElem?_zipWith]
    simp [List.getElem?_eq_getElem, hi, show i < ds.length by omega]
  rw [this]; rfl
def newS (ns : List ByteArray) (ds : List Int) : Sto × Bool := bif (ns.length : Int) == (ds.length : Int) then (bif dbB (mkDb ns ds) then (([], [mkDb ns ds]), true) else (([], []), false)) else (([], []), false)
theorem dbB_nil : dbB [] = true := by decide
theorem Li_NewStore_5_val (ns : List ByteArray) (ds : List Int) (st : Sto) (h : ns.length = ds.length) (hz : zL zB ns ≤ 68719476736) : ∀ (n i : Nat), n + i = ns.length → Li_NewStore_5 ns ds st ((mkDb ns ds).take i) ns (ns.length : Int) (i : Int) = some (((newS ns ds).1, (newS ns ds).2, ()), ())
  | 0, i, hn => by
    have hl : ns.length ≤ 68719476736 := Nat.le_trans (zL_len _ _) hz
    obtain rfl : i = ns.length := by omega
    have e : ((ns.length : Int) == (ds.length : Int)) = true := by simp [h]
    rw [Li_NewStore_5_eq, lt_no, List.take_of_length_le (by rw [mkDb_len h]; omega), Si_IsDatabase_val]
    unfold newS
    simp only [e, Option.bind_some]
    cases dbB (mkDb ns ds) <;> rfl
  | n + 1, i, hn => by
    have hl : ns.length ≤ 68719476736 := Nat.le_trans (zL_len _ _) hz
    have hi : i < ns.length := by omega
    have hlen : ((mkDb ns ds).take i).length = i := by rw [List.length_take, mkDb_len h]; omega
    have e8 : decide ((((mkDb ns ds).take i).length + 1) * 48 ≤ 140737488355328) = true := by rw [hlen]; simp; omega
    rw [Li_NewStore_5_eq, lt_yes hi, getI_ok hi, getI_ok (show i < ds.length by omega), wrap_succ (by omega), e8]
    simp only [cond_true, Option.bind_some]
    rw [← mkDb_take h hi]
    exact Li_NewStore_5_val ns ds st h hz n (i + 1) (by omega)
theorem Si_NewStore_val (ns : List ByteArray) (ds : List Int) (hz : zL zB ns ≤ 68719476736) : Si_NewStore ns ds = some (((newS ns ds).1, (newS ns ds).2, ()), ()) := by
  rw [Si_NewStore_eq]
  by_cases h : ns.length = ds.length
  · have := Li_NewStore_5_val ns ds ([], []) h hz ns.length 0 (by omega)
    rw [List.take_zero] at this
    have e : ((ns.length : Int) != (ds.length : Int)) = false := by simp [h]
    rw [e, cond_false]
    exact this
  · have e : ((ns.length : Int) == (ds.length : Int)) = false := by simp; omega
    unfold newS
    simp only [bne, e]; rfl
theorem law_NewHouse : Sw_FnExactNewHouse = some ((true, ()), ()) := by
  have hs := Si_NewStore_val [] [] (by simp [zL])
  have e : newS [] [] = (([], [[]]), true) := by
    unfold newS
    rw [show dbB (mkDb [] []) = true from dbB_nil]
    rfl
  rw [e] at hs
  have h1 : Ss_NewHouse = some (((([], [[]]), false, [], [], []), ()), ()) := Ss_NewHouse_eq
  have h2 : Si_NewHouse = some (((([], [[]]), false, [], [], []), ()), ()) := by rw [Si_NewHouse_eq, hs]; rfl
  have z : zH (([], [[]]), false, [], [], []) = 1 := by decide
  have q2 := tdH (([], [[]]), false, [], [], []) 1
  rw [z] at q2
  have c3 : decide ((tH (([], [[]]), false, [], [], []) 1).2 < 0) = false := decide_eq_false (by omega)
  rw [Sw_FnExactNewHouse_eq, h1, h2]
  simp only [Option.bind_some, Sw_eqHouse_val (([], [[]]), false, [], [], []) (by rw [z]; omega), Bool.not_true, cond_false, Sw_markHouse_val _ 1 (by omega) (show (tH (([], [[]]), false, [], [], []) 1).2 ≤ 1000000000000000000 by omega) (by rw [z]; omega), Sw_heldHouse_val _ 1 (by omega) (show (tH (([], [[]]), false, [], [], []) 1).2 ≤ 1000000000000000000 by omega) (by rw [z]; omega), c3, bne_self_eq_false]

end Go.Proofs.Ytjccadhifgkdbaa.P.It
