/- A part of the proof: It8d. No conditions. -/
import Derived.Test.YtdfcejijcnhcaaaDIt6d
set_option linter.unusedVariables false
set_option linter.unusedSimpArgs false
namespace Go.Proofs.Ytdfcejijcnhcaaa.D.It
open Am

/-! ### numbers that are not too great -/
theorem S71_big {a : Int} (h : a.natAbs ≤ 4611686018427387904) : S71 a = some (((a.natAbs : Int), ()), ()) := by
  rw [S71_eq]
  by_cases h0 : a < 0
  · simp only [h0, decide_true, cond_true]
    rw [wrap_id (by omega) (by omega)]
    congr 3; omega
  · simp only [h0, decide_false, cond_false]
    congr 3; omega
theorem S124_big {a : Int} (h : a.natAbs ≤ 4611686018427387904) : S124 a = some (((a.natAbs : Int), ()), ()) := by
  rw [S124_eq]
  rw [wrap_id (by omega) (by omega)]
  simp only [cond_true]
  congr 3
  split <;> omega
theorem S114_big (a : Nat) {b : Int} (h : b.natAbs ≤ 4611686018427387904) : S114 (a : Int) b = some ((((Nat.gcd a b.natAbs : Nat) : Int), ()), ()) := by
  rw [S114_eq, S71_nat, S71_big h]
  simp only [Option.bind_some]
  rw [L114_val _ _ _ (Nat.le_refl _) (by omega) (by omega)]
  simp
theorem S111_big (x : List Int) (k : Int) (hl : x.length ≤ 1048576) (hx : ∀ y ∈ x, numB y = true) (hk : k.natAbs ≤ 4611686018427387904) : S111 x k = some ((((gl x k.natAbs : Nat) : Int), ()), ()) := by
  rw [S111_eq, S124_big hk, Option.bind_some]
  have := L111_3_val x hl hx x.length 0 k.natAbs (by omega)
  simpa using this

/-! ### loops that build rows -/
theorem set_loop {α β R : Type} (x : List α) (g : α → β) (f : List β → Int → R)
    (h1 : ∀ (i : Nat) (h : i < x.length) (v : List β), v.length = x.length → f v (i : Int) = f (v.set i (g x[i])) ((i + 1 : Nat) : Int)) :
    ∀ (n i : Nat) (v : List β), n + i = x.length → v.length = x.length → f v (i : Int) = f (v.take i ++ (x.drop i).map g) (x.length : Int)
  | 0, i, v, hn, hv => by
    obtain rfl : i = x.length := by omega
    rw [List.take_of_length_le (by omega), List.drop_eq_nil_of_le (by omega), List.map_nil, List.append_nil]
  | n + 1, i, v, hn, hv => by
    have hi : i < x.length := by omega
    rw [h1 i hi v hv, set_loop x g f h1 n (i + 1) _ (by omega) (by simpa using hv)]
    congr 1
    have e1 : (v.set i (g x[i])).take (i + 1) = v.take i ++ [g x[i]] := by
      rw [List.take_add_one, List.take_set_of_le (by omega)]
      simp [hv, hi]
    rw [e1, List.append_assoc, List.singleton_append]
    congr 1
    rw [List.drop_eq_getElem_cons hi, List.map_cons]
theorem app_loop {α β R : Type} (x : List α) (g : α → β) (f : List β → Int → R)
    (h1 : ∀ (i : Nat) (h : i < x.length) (v : List β), v.length = i → f v (i : Int) = f (v ++ [g x[i]]) ((i + 1 : Nat) : Int)) :
    ∀ (n i : Nat) (v : List β), n + i = x.length → v.length = i → f v (i : Int) = f (v ++ (x.drop i).map g) (x.length : Int)
  | 0, i, v, hn, hv => by
    obtain rfl : i = x.length := by omega
    rw [List.drop_eq_nil_of_le (by omega), List.map_nil, List.append_nil]
  | n + 1, i, v, hn, hv => by
    have hi : i < x.length := by omega
    rw [h1 i hi v hv, app_loop x g f h1 n (i + 1) _ (by omega) (by simp [hv]), List.append_assoc, List.singleton_append]
    rw [List.drop_eq_getElem_cons hi, List.map_cons]
/-- All that may fail. -/
def mapO {α β : Type} (st : α → Option β) : List α → Option (List β)
  | [] => some []
  | a :: l => match st a with
    | none => none
    | some b => match mapO st l with
      | none => none
      | some bs => some (b :: bs)
theorem opt_loop {α β R : Type} (x : List α) (st : α → Option β) (f : List β → Int → R) (F : R)
    (h1 : ∀ (i : Nat) (h : i < x.length) (v : List β), v.length = i → f v (i : Int) = match st x[i] with
      | none => F
      | some b => f (v ++ [b]) ((i + 1 : Nat) : Int)) :
    ∀ (n i : Nat) (v : List β), n + i = x.length → v.length = i → f v (i : Int) = match mapO st (x.drop i) with
      | none => F
      | some bs => f (v ++ bs) (x.length : Int)
  | 0, i, v, hn, hv => by
    obtain rfl : i = x.length := by omega
    rw [List.drop_eq_nil_of_le (by omega)]
    simp [mapO]
  | n + 1, i, v, hn, hv => by
    have hi : i < x.length := by omega
    rw [h1 i hi v hv, List.drop_eq_getElem_cons hi]
    cases hs : st x[i] with
    | none => simp [mapO, hs]
    | some b =>
      simp only [mapO, hs]
      rw [opt_loop x st f F h1 n (i + 1) _ (by omega) (by simp [hv])]
      cases mapO st (x.drop (i + 1)) with
      | none => rfl
      | some bs => simp
theorem mapO_len {α β : Type} {st : α → Option β} : {l : List α} → {bs : List β} → mapO st l = some bs → bs.length = l.length ∧ ∀ b ∈ bs, ∃ a ∈ l, st a = some b
  | [], bs, h => by
    injection h with h
    subst h
    simp
  | a :: l, bs, h => by
    simp only [mapO] at h
    cases hs : st a with
    | none => simp [hs] at h
    | some b =>
      cases hm : mapO st l with
      | none => simp [hs, hm] at h
      | some bs' =>
        simp only [hs, hm, Option.some.injEq] at h
        subst h
        obtain ⟨h1, h2⟩ := mapO_len hm
        refine ⟨by simp [h1], fun c hc => ?_⟩
        rcases List.mem_cons.1 hc with rfl | hc
        · exact ⟨a, by simp, hs⟩
        · obtain ⟨a', ha, e⟩ := h2 c hc
          exact ⟨a', by simp [ha], e⟩

/-! ### an atom in lowest terms -/
def gOf (x : List Int) (k : Int) : Int := if gl x k.natAbs = 0 then 1 else ((gl x k.natAbs : Nat) : Int)
theorem gOf_ne (x : List Int) (k : Int) : (gOf x k != 0) = true := by
  unfold gOf
  split <;> simp; omega
def lowest (x : List Int) (k : Int) (b : Bool) : Atm := (x.map (fun y => IntKind.i64.wrap (y.tdiv (gOf x k))), IntKind.i64.wrap (k.tdiv (gOf x k)), b)
def lowR (x : List Int) (k : Int) (b : Bool) : Option Atm := bif atomB (lowest x k b) then some (lowest x k b) else none
def okR (r : Option Atm) : Option (((List Int × Int × Bool) × Bool × PUnit) × PUnit) := match r with
  | none => some ((([], 0, false), false, ()), ())
  | some a => some ((a, true, ()), ())
theorem S74_val (x : List Int) (k : Int) (b : Bool) (hl : x.length ≤ 1048576) (hx : ∀ y ∈ x, numB y = true) (hk : k.natAbs ≤ 4611686018427387904) : S74 x k b = okR (lowR x k b) := by
  rw [S74_eq, S111_big x k hl hx hk]
  have hg : (if 1 < ((gl x k.natAbs : Nat) : Int) then ((gl x k.natAbs : Nat) : Int) else 1) = gOf x k := by
    unfold gOf
    split <;> split <;> omega
  simp only [Option.bind_some, cond_true, hg, gOf_ne]
  have := app_loop x (fun y => IntKind.i64.wrap (y.tdiv (gOf x k))) (fun v i => L74_4 x ty115.zero (gOf x k) (v, IntKind.i64.wrap (k.tdiv (gOf x k)), b) i) (fun i hi v hv => by
    rw [L74_4_eq, getI_ok hi, wrap_succ (by omega)]
    have h8 : decide ((v.length + [IntKind.i64.wrap (x[i].tdiv (gOf x k))].length) * 8 ≤ 140737488355328) = true := by simp; omega
    simp only [lt_yes hi, cond_true, Option.bind_some, gOf_ne]
    rw [h8, cond_true]) x.length 0 [] (by omega) rfl
  simp only [List.drop_zero, List.nil_append, Int.natCast_zero] at this
  refine Eq.trans this ?_
  rw [L74_4_eq, lt_no, cond_false, S110_val]
  unfold lowR lowest
  cases atomB _ <;> rfl
theorem S78_val (x : List Int) (k : Int) (b : Bool) (hl : x.length ≤ 1048576) (hx : ∀ y ∈ x, numB y = true) (hk : k.natAbs ≤ 4611686018427387904) : S78 x k b = okR (lowR x k b) := by
  rw [S78_eq, S115_val x hl hx, Option.bind_some, S114_big _ hk, Option.bind_some]
  rw [← gl_is]
  have key : L78_6 x ty115.zero (gOf x k) (List.replicate (x.length : Int).toNat ty3.zero, IntKind.i64.wrap (k.tdiv (gOf x k)), b) x (x.length : Int) 0 = okR (lowR x k b) := by
    have := set_loop x (fun y => IntKind.i64.wrap (y.tdiv (gOf x k))) (fun v i => L78_6 x ty115.zero (gOf x k) (v, IntKind.i64.wrap (k.tdiv (gOf x k)), b) x (x.length : Int) i) (fun i hi v hv => by
      rw [L78_6_eq, getI_ok hi, wrap_succ (by omega)]
      simp only [lt_yes hi, cond_true, Option.bind_some, gOf_ne, getI_ok (xs := v) (i := i) (by omega), Int.toNat_natCast]) x.length 0 (List.replicate (x.length : Int).toNat ty3.zero) (by omega) (by simp)
    simp only [List.drop_zero, List.take_zero, List.nil_append, Int.natCast_zero] at this
    refine Eq.trans this ?_
    rw [L78_6_eq, lt_no, cond_false, S113_val]
    unfold lowR lowest
    cases atomB _ <;> rfl
  by_cases h0 : gl x k.natAbs = 0
  · have e : gOf x k = 1 := by unfold gOf; rw [if_pos h0]
    have e0 : (((gl x k.natAbs : Nat) : Int) == 0) = true := by simp [h0]
    rw [e0, cond_true, mk_ok x 8 hl (by omega) (by omega)]
    rw [e] at key
    exact key
  · have e : gOf x k = ((gl x k.natAbs : Nat) : Int) := by unfold gOf; rw [if_neg h0]
    have e0 : (((gl x k.natAbs : Nat) : Int) == 0) = false := by simp [h0]
    have e1 : (((gl x k.natAbs : Nat) : Int) != 0) = true := by simp [h0]
    rw [e0, cond_false, mk_ok x 8 hl (by omega) (by omega), e1, cond_true, ← e]
    exact key
end Go.Proofs.Ytdfcejijcnhcaaa.D.It
