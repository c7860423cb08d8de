/- A part of the proof: It9d. No conditions. -/
import Derived.Test.YtdfcejijcnhcaaaDIt8d
import Derived.Test.YtdfcejijcnhcaaaDG7
set_option linter.unusedVariables false
set_option linter.unusedSimpArgs false
namespace Go.Proofs.Ytdfcejijcnhcaaa.D.It
open Am

/-! ### a cell that is moved -/
def movB' (y : Int) : Bool := decide (-1000 ≤ y) && decide (y ≤ 1000)
theorem S77_val' (y : Int) : S77 y = some ((movB' y, ()), ()) := by
  rw [S77_eq]
  unfold movB'
  by_cases h : y ≥ -1000
  · simp [h]
  · simp [h]
/-- The constant, step by step. -/
def mvK (co bs : List Int) : Nat → Nat → Int → Option Int
  | 0, _, k => some k
  | n + 1, j, k => match bs[j]?, co[j]? with
    | some b, some c => bif movB' b then mvK co bs n (j + 1) (k - c * b) else none
    | _, _ => none
theorem mul_bound {c b : Int} (hc : numB c = true) (hb : movB' b = true) : (c * b).natAbs ≤ 400000000000 := by
  simp only [numB, movB', Bool.and_eq_true, decide_eq_true_eq] at hc hb
  rw [Int.natAbs_mul]
  calc c.natAbs * b.natAbs ≤ 400000000 * 1000 := Nat.mul_le_mul (by omega) (by omega)
    _ = 400000000000 := rfl
theorem mvK_bound {co bs : List Int} (hco : ∀ y ∈ co, numB y = true) : ∀ (n j : Nat) (k k' : Int), mvK co bs n j k = some k' → k'.natAbs ≤ k.natAbs + n * 400000000000
  | 0, j, k, k', h => by
    injection h with h
    subst h
    omega
  | n + 1, j, k, k', h => by
    simp only [mvK] at h
    split at h
    · rename_i b c hb hc
      cases hm : movB' b with
      | false => simp [hm] at h
      | true =>
        rw [hm, cond_true] at h
        have h1 := mvK_bound hco n (j + 1) _ _ h
        have h2 := mul_bound (hco c (List.mem_of_getElem? hc)) hm
        omega
    · cases h
def stepA (bs : List Int) (a : Atm) : Option Atm := match mvK a.1 bs a.1.length 0 a.2.1 with
  | none => none
  | some k => lowR a.1 k a.2.2
def failC : Option ((Cel × Bool × PUnit) × PUnit) := some (((0, []), false, ()), ())
theorem L29_9_val (bs : List Int) (c x4 : Cel) (x6 : Cel) (i : Nat) (hi : i < c.2.length) (h16 : c.2.length ≤ 16) (h6 : x6.2.length = i) (hb : (bs.length : Int) = c.1) (hc : (c.2[i].1.length : Int) = c.1) (h4 : c.2[i].1.length ≤ 4) (hx : ∀ y ∈ c.2[i].1, numB y = true) :
    ∀ (n j : Nat) (k : Int), n + j = c.2[i].1.length → k.natAbs ≤ 400000000 + j * 400000000000 → L29_9 bs c x4 x6 (i : Int) k (j : Int) = match mvK c.2[i].1 bs n j k with
      | none => failC
      | some k' => match lowR c.2[i].1 k' c.2[i].2.2 with
        | none => failC
        | some a => L29_5 bs c x4 (x6.1, x6.2 ++ [a]) ((i + 1 : Nat) : Int)
  | 0, j, k, hn, hk => by
    rw [L29_9_eq, getI_ok hi]
    have : decide ((j : Int) < c.1) = false := by simp; omega
    simp only [this, cond_false, Option.bind_some]
    rw [S74_val _ _ _ (by omega) hx (by omega)]
    simp only [mvK]
    cases lowR c.2[i].1 k c.2[i].2.2 with
    | none => rfl
    | some a =>
      simp only [okR, Option.bind_some, Bool.not_true, cond_false]
      have h8 : decide ((x6.2.length + [a].length) * 40 ≤ 140737488355328) = true := by simp; omega
      rw [h8, cond_true, wrap_succ (by omega)]
  | n + 1, j, k, hn, hk => by
    have hjb : j < bs.length := by omega
    have hjc : j < c.2[i].1.length := by omega
    rw [L29_9_eq, getI_ok hi, getI_ok hjb]
    have : decide ((j : Int) < c.1) = true := by simp; omega
    simp only [this, cond_true, Option.bind_some, S62_val, getI_ok hjc]
    simp only [mvK, List.getElem?_eq_getElem hjb, List.getElem?_eq_getElem hjc]
    change (bif !movB' bs[j] then _ else _) = _
    cases hm : movB' bs[j] with
    | false => rfl
    | true =>
      have h2 := mul_bound (hx _ (List.getElem_mem hjc)) hm
      simp only [Bool.not_true, cond_false, cond_true]
      rw [wrap_id (x := c.2[i].1[j] * bs[j]) (by omega) (by omega), wrap_id (by omega) (by omega), wrap_succ (by omega)]
      exact L29_9_val bs c x4 x6 i hi h16 h6 hb hc h4 hx n (j + 1) _ (by omega) (by omega)
theorem L32_9_val (bs : List Int) (c x4 : Cel) (x6 : Cel) (a : Atm) (i : Nat) (hi : i < c.2.length) (h16 : c.2.length ≤ 16) (h6 : x6.2.length = i) (hb : bs.length = a.1.length) (h4 : a.1.length ≤ 4) (hx : ∀ y ∈ a.1, numB y = true) :
    ∀ (n j : Nat) (k : Int), n + j = a.1.length → k.natAbs ≤ 400000000 + j * 400000000000 → L32_9 bs c x4 x6 a k c.2 (c.2.length : Int) (i : Int) bs (bs.length : Int) (j : Int) = match mvK a.1 bs n j k with
      | none => failC
      | some k' => match lowR a.1 k' a.2.2 with
        | none => failC
        | some a => L32_5 bs c x4 (x6.1, x6.2 ++ [a]) c.2 (c.2.length : Int) ((i + 1 : Nat) : Int)
  | 0, j, k, hn, hk => by
    obtain rfl : j = bs.length := by omega
    rw [L32_9_eq, lt_no, cond_false]
    rw [S78_val _ _ _ (by omega) hx (by omega)]
    simp only [mvK]
    cases lowR a.1 k a.2.2 with
    | none => rfl
    | some a =>
      simp only [okR, Option.bind_some, Bool.not_true, cond_false]
      have h8 : decide ((x6.2.length + [a].length) * 40 ≤ 140737488355328) = true := by simp; omega
      rw [h8, cond_true, wrap_succ (by omega)]
  | n + 1, j, k, hn, hk => by
    have hjb : j < bs.length := by omega
    have hjc : j < a.1.length := by omega
    rw [L32_9_eq, lt_yes hjb, getI_ok hjb]
    simp only [cond_true, Option.bind_some, S77_val', getI_ok hjc]
    simp only [mvK, List.getElem?_eq_getElem hjb, List.getElem?_eq_getElem hjc]
    cases hm : movB' bs[j] with
    | false => rfl
    | true =>
      have h2 := mul_bound (hx _ (List.getElem_mem hjc)) hm
      simp only [Bool.not_true, cond_false, cond_true]
      rw [wrap_id (x := a.1[j] * bs[j]) (by omega) (by omega), wrap_id (by omega) (by omega), wrap_succ (by omega)]
      exact L32_9_val bs c x4 x6 a i hi h16 h6 hb h4 hx n (j + 1) _ (by omega) (by omega)
def mvR (c : Cel) (bs : List Int) : Option Cel := bif cellB c && ((bs.length : Int) == c.1) then (match mapO (stepA bs) c.2 with
  | none => none
  | some xs => some (c.1, xs)) else none
def okC (r : Option Cel) : Option ((Cel × Bool × PUnit) × PUnit) := match r with
  | none => failC
  | some c => some ((c, true, ()), ())
theorem cellB_facts {c : Cel} (h : cellB c = true) : c.2.length ≤ 16 ∧ ∀ a ∈ c.2, (a.1.length : Int) = c.1 ∧ a.1.length ≤ 4 ∧ numB a.2.1 = true ∧ ∀ y ∈ a.1, numB y = true := by
  unfold cellB at h
  simp only [Bool.and_eq_true, List.all_eq_true, decide_eq_true_eq, Bool.not_eq_true', bne_eq_false_iff_eq] at h
  obtain ⟨h1, h2, h3⟩ := h
  refine ⟨by omega, fun a ha => ?_⟩
  obtain ⟨h4, h5⟩ := h1 a ha
  unfold atomB at h4
  simp only [Bool.and_eq_true, List.all_eq_true, decide_eq_true_eq, Bool.not_eq_true', decide_eq_false_iff_not] at h4
  exact ⟨h5, by omega, h4.2.1, h4.2.2.1⟩
theorem S29_val (c : Cel) (bs : List Int) (hl : c.2.length ≤ 1048576) : S29 c bs = okC (mvR c bs) := by
  rw [S29_eq, S73_val c hl]
  unfold mvR
  simp only [Option.bind_some]
  cases hcb : cellB c with
  | false => rfl
  | true =>
    obtain ⟨h16, hat⟩ := cellB_facts hcb
    have e : ((bs.length : Int) != c.1) = !((bs.length : Int) == c.1) := rfl
    rw [e]
    cases hb : ((bs.length : Int) == c.1) with
    | false => rfl
    | true =>
      have hb' : (bs.length : Int) = c.1 := by simpa using hb
      simp only [Bool.not_true, cond_false, Bool.and_self, cond_true]
      have := opt_loop c.2 (stepA bs) (fun v i => L29_5 bs c ty49.zero (c.1, v) i) failC (fun i hi v hv => by
        obtain ⟨a1, a2, a3, a4⟩ := hat _ (List.getElem_mem hi)
        have h3 : c.2[i].2.1.natAbs ≤ 400000000 := by
          simp only [numB, Bool.and_eq_true, decide_eq_true_eq] at a3
          omega
        rw [L29_5_eq, getI_ok hi, lt_yes hi, cond_true, Option.bind_some]
        have := L29_9_val bs c ty49.zero (c.1, v) i hi h16 hv hb' a1 a2 a4 c.2[i].1.length 0 c.2[i].2.1 (by omega) (by omega)
        rw [show ((0 : Nat) : Int) = 0 from rfl] at this
        rw [this]
        unfold stepA
        cases mvK c.2[i].1 bs c.2[i].1.length 0 c.2[i].2.1 with
        | none => rfl
        | some k =>
          simp only []
          cases lowR c.2[i].1 k c.2[i].2.2 <;> rfl) c.2.length 0 [] (by omega) rfl
      simp only [List.drop_zero, List.nil_append, Int.natCast_zero] at this
      refine Eq.trans this ?_
      cases mapO (stepA bs) c.2 with
      | none => rfl
      | some xs =>
        simp only []
        rw [L29_5_eq, lt_no]
        rfl
theorem S32_val (c : Cel) (bs : List Int) : S32 c bs = okC (mvR c bs) := by
  rw [S32_eq, S76_val c]
  unfold mvR
  simp only [Option.bind_some]
  cases hcb : cellB c with
  | false => rfl
  | true =>
    obtain ⟨h16, hat⟩ := cellB_facts hcb
    have e : ((bs.length : Int) != c.1) = !((bs.length : Int) == c.1) := rfl
    rw [e]
    cases hb : ((bs.length : Int) == c.1) with
    | false => rfl
    | true =>
      have hb' : (bs.length : Int) = c.1 := by simpa using hb
      simp only [Bool.not_true, cond_false, Bool.and_self, cond_true]
      have := opt_loop c.2 (stepA bs) (fun v i => L32_5 bs c ty49.zero (c.1, v) c.2 (c.2.length : Int) i) failC (fun i hi v hv => by
        obtain ⟨a1, a2, a3, a4⟩ := hat _ (List.getElem_mem hi)
        have h3 : c.2[i].2.1.natAbs ≤ 400000000 := by
          simp only [numB, Bool.and_eq_true, decide_eq_true_eq] at a3
          omega
        rw [L32_5_eq, getI_ok hi, lt_yes hi, cond_true, Option.bind_some]
        have := L32_9_val bs c ty49.zero (c.1, v) c.2[i] i hi h16 hv (by omega) a2 a4 c.2[i].1.length 0 c.2[i].2.1 (by omega) (by omega)
        rw [show ((0 : Nat) : Int) = 0 from rfl] at this
        rw [this]
        unfold stepA
        cases mvK c.2[i].1 bs c.2[i].1.length 0 c.2[i].2.1 with
        | none => rfl
        | some k =>
          simp only []
          cases lowR c.2[i].1 k c.2[i].2.2 <;> rfl) c.2.length 0 [] (by omega) rfl
      simp only [List.drop_zero, List.nil_append, Int.natCast_zero] at this
      refine Eq.trans this ?_
      cases mapO (stepA bs) c.2 with
      | none => rfl
      | some xs =>
        simp only []
        rw [L32_5_eq, lt_no]
        rfl
theorem mvR_g {c : Cel} {bs : List Int} {c' : Cel} (h : mvR c bs = some c') : gC c' ∧ c'.2.length ≤ 16 := by
  unfold mvR at h
  cases hc : (cellB c && ((bs.length : Int) == c.1)) with
  | false => rw [hc] at h; cases h
  | true =>
    rw [hc, cond_true] at h
    simp only [Bool.and_eq_true] at hc
    obtain ⟨h16, _⟩ := cellB_facts hc.1
    cases hm : mapO (stepA bs) c.2 with
    | none => rw [hm] at h; cases h
    | some xs =>
      rw [hm] at h
      injection h with h
      subst h
      obtain ⟨h1, h2⟩ := mapO_len hm
      refine ⟨⟨by simp only []; omega, fun a ha => ?_⟩, by simp only []; omega⟩
      obtain ⟨a0, _, he⟩ := h2 a ha
      unfold stepA at he
      split at he
      · cases he
      · unfold lowR at he
        rename_i k _
        cases hb : atomB (lowest a0.1 k a0.2.2) with
        | false => rw [hb] at he; cases he
        | true =>
          rw [hb, cond_true] at he
          injection he with he
          subst he
          unfold atomB at hb
          simp only [Bool.and_eq_true, Bool.not_eq_true', decide_eq_false_iff_not] at hb
          unfold gA
          omega

/-! ### marks -/
def mkI : Nat → Int → List Int
  | 0, _ => []
  | n + 1, k => k :: mkI n (k + 1)
theorem mkI_len : ∀ (n : Nat) (k : Int), (mkI n k).length = n
  | 0, _ => rfl
  | n + 1, k => by simp [mkI, mkI_len n]
theorem wrap_up {k : Int} (h0 : 0 ≤ k) (h1 : k ≤ 1000000000000000000) : IntKind.i64.wrap (k + 1) = k + 1 := wrap_id (by omega) (by omega)
theorem L36_2_val (x : List Int) (hl : x.length ≤ 1048576) : ∀ (n i : Nat) (v : List Int) (k : Int), n + i = x.length → v.length = x.length → 0 ≤ k → k + n ≤ 1000000000000000000 → L36_2 v k (i : Int) = some ((k + n, ()), v.take i ++ mkI n k, ())
  | 0, i, v, k, hn, hv, h0, h1 => by
    obtain rfl : i = x.length := by omega
    rw [L36_2_eq, ← hv, lt_no, List.take_of_length_le (by omega)]
    simp [mkI]
  | n + 1, i, v, k, hn, hv, h0, h1 => by
    have hi : i < v.length := by omega
    rw [L36_2_eq, lt_yes hi, getI_ok hi, wrap_succ (by omega), wrap_up h0 (by omega)]
    simp only [cond_true, Option.bind_some, Int.toNat_natCast]
    rw [L36_2_val x hl n (i + 1) _ (k + 1) (by omega) (by simpa using hv) (by omega) (by omega)]
    have e1 : (v.set i k).take (i + 1) = v.take i ++ [k] := by
      rw [List.take_add_one, List.take_set_of_le (by omega)]
      simp [hi]
    rw [e1, List.append_assoc, List.singleton_append]
    simp only [mkI]
    congr 3
    omega
theorem S36_val (x : List Int) (k : Int) (hl : x.length ≤ 1048576) (h0 : 0 ≤ k) (h1 : k + x.length ≤ 1000000000000000000) : S36 x k = some ((k + x.length, ()), mkI x.length k, ()) := by
  rw [S36_eq]
  have := L36_2_val x hl x.length 0 x k (by omega) rfl h0 h1
  simpa using this
theorem L117_2_val (x : List Int) (hl : x.length ≤ 1048576) : ∀ (n i : Nat) (k : Int), n + i = x.length → x.drop i = mkI n k → 0 ≤ k → k + n ≤ 1000000000000000000 → L117_2 x k (i : Int) = some ((k + n, ()), ())
  | 0, i, k, hn, hx, h0, h1 => by
    obtain rfl : i = x.length := by omega
    rw [L117_2_eq, lt_no]
    simp
  | n + 1, i, k, hn, hx, h0, h1 => by
    have hi : i < x.length := by omega
    rw [List.drop_eq_getElem_cons hi] at hx
    simp only [mkI, List.cons.injEq] at hx
    rw [L117_2_eq, lt_yes hi, getI_ok hi, wrap_succ (by omega), wrap_up h0 (by omega), hx.1]
    simp only [cond_true, Option.bind_some, bne_self_eq_false, cond_false]
    rw [L117_2_val x hl n (i + 1) (k + 1) (by omega) hx.2 (by omega) (by omega)]
    congr 3
    omega
theorem S117_val (n : Nat) (k : Int) (hl : n ≤ 1048576) (h0 : 0 ≤ k) (h1 : k + n ≤ 1000000000000000000) : S117 (mkI n k) k = some ((k + n, ()), ()) := by
  rw [S117_eq]
  have := L117_2_val (mkI n k) (by rw [mkI_len]; exact hl) n 0 k (by rw [mkI_len]; omega) rfl h0 h1
  simpa using this
def mkAs : List Atm → Int → List Atm
  | [], _ => []
  | a :: l, k => (mkI a.1.length k, k + a.1.length, ((k + a.1.length + 1).tmod 3 == 0)) :: mkAs l (k + a.1.length + 2)
def mkN : List Atm → Int → Int
  | [], k => k
  | a :: l, k => mkN l (k + a.1.length + 2)
theorem mkAs_len : ∀ (l : List Atm) (k : Int), (mkAs l k).length = l.length
  | [], _ => rfl
  | a :: l, k => by simp [mkAs, mkAs_len l]
theorem mkN_ge : ∀ (l : List Atm) (k : Int), k ≤ mkN l k
  | [], _ => Int.le_refl _
  | a :: l, k => by
    have := mkN_ge l (k + a.1.length + 2)
    simp only [mkN]
    omega
theorem mkN_le : ∀ (l : List Atm) (k : Int), (∀ a ∈ l, gA a) → mkN l k ≤ k + l.length * 1048578
  | [], _, _ => by simp [mkN]
  | a :: l, k, h => by
    have h1 := mkN_le l (k + a.1.length + 2) (fun a ha => h a (by simp [ha]))
    have h2 : a.1.length ≤ 1048576 := h a (by simp)
    simp only [mkN, List.length_cons]
    omega
theorem L80_2_val (x : List Atm) (hl : x.length ≤ 1048576) (hg : ∀ a ∈ x, gA a) : ∀ (n i : Nat) (v : List Atm) (k : Int), n + i = x.length → v.length = x.length → v.drop i = x.drop i → 0 ≤ k → k + n * 1048578 ≤ 100000000000000000 → L80_2 v k (i : Int) = some ((mkN (x.drop i) k, ()), v.take i ++ mkAs (x.drop i) k, ())
  | 0, i, v, k, hn, hv, hd, h0, h1 => by
    obtain rfl : i = x.length := by omega
    rw [L80_2_eq, ← hv, lt_no, List.take_of_length_le (by omega), List.drop_eq_nil_of_le (by omega)]
    simp [mkN, mkAs]
  | n + 1, i, v, k, hn, hv, hd, h0, h1 => by
    have hi : i < v.length := by omega
    have hix : i < x.length := by omega
    have hvx : v[i] = x[i] := by
      rw [List.drop_eq_getElem_cons hi, List.drop_eq_getElem_cons hix] at hd
      injection hd
    have hga : x[i].1.length ≤ 1048576 := hg _ (List.getElem_mem hix)
    have hset : ∀ (a b : Atm), (v.set i a).set i b = v.set i b := fun a b => List.set_set ..
    have hget : ∀ (a : Atm), getI (v.set i a) (i : Int) = some a := fun a => by
      rw [getI_ok (by simpa using hi)]
      simp
    rw [L80_2_eq, lt_yes hi, getI_ok hi, wrap_succ (by omega), hvx]
    simp only [cond_true, Option.bind_some, Int.toNat_natCast]
    rw [S36_val x[i].1 k hga h0 (by omega)]
    simp only [Option.bind_some, hget, hset]
    rw [wrap_up (by omega) (by omega), wrap_id (x := k + x[i].1.length + 1 + 1) (by omega) (by omega)]
    rw [L80_2_val x hl hg n (i + 1) _ _ (by omega) (by simpa using hv) (by
      rw [List.drop_set_of_lt (by omega)]
      rw [List.drop_eq_getElem_cons hi, List.drop_eq_getElem_cons hix] at hd
      injection hd) (by omega) (by omega)]
    have e1 : ∀ (a : Atm), (v.set i a).take (i + 1) = v.take i ++ [a] := fun a => by
      rw [List.take_add_one, List.take_set_of_le (by omega)]
      simp [hi]
    rw [e1, List.append_assoc, List.singleton_append]
    rw [List.drop_eq_getElem_cons hix]
    simp only [mkAs, mkN]
    rw [show k + x[i].1.length + 1 + 1 = k + x[i].1.length + 2 by omega]
theorem S80_val (x : List Atm) (k : Int) (h : x.length ≤ 1048576 ∧ ∀ a ∈ x, gA a) (h0 : 0 ≤ k) (h1 : k ≤ 10000000000000000) : S80 x k = some ((mkN x k, ()), mkAs x k, ()) := by
  rw [S80_eq]
  have := L80_2_val x h.1 h.2 x.length 0 x k (by omega) rfl rfl h0 (by have := h.1; omega)
  simpa using this
theorem L81_2_val (x y : List Atm) (hl : x.length ≤ 1048576) (hy : y.length = x.length) (hg : ∀ a ∈ x, gA a) : ∀ (n i : Nat) (k : Int), n + i = x.length → y.drop i = mkAs (x.drop i) k → 0 ≤ k → k + n * 1048578 ≤ 100000000000000000 → L81_2 y k (i : Int) = some ((mkN (x.drop i) k, ()), ())
  | 0, i, k, hn, hd, h0, h1 => by
    obtain rfl : i = x.length := by omega
    rw [L81_2_eq, ← hy, lt_no, List.drop_eq_nil_of_le (by omega)]
    simp [mkN]
  | n + 1, i, k, hn, hd, h0, h1 => by
    have hi : i < y.length := by omega
    have hix : i < x.length := by omega
    have hga : x[i].1.length ≤ 1048576 := hg _ (List.getElem_mem hix)
    rw [List.drop_eq_getElem_cons hi, List.drop_eq_getElem_cons hix] at hd
    simp only [mkAs, List.cons.injEq] at hd
    obtain ⟨hd1, hd2⟩ := hd
    rw [L81_2_eq, lt_yes hi, getI_ok hi, wrap_succ (by omega), hd1]
    simp only [cond_true, Option.bind_some]
    rw [S117_val _ k hga h0 (by omega)]
    have hneg : decide (k + (x[i].1.length : Int) < 0) = false := by simp; omega
    simp only [Option.bind_some, hneg, cond_false, bne_self_eq_false]
    rw [wrap_up (by omega) (by omega), wrap_id (x := k + x[i].1.length + 1 + 1) (by omega) (by omega)]
    have hs : (!((k + (x[i].1.length : Int) + 1).tmod 3 == 0) == ((k + (x[i].1.length : Int) + 1).tmod 3 == 0)) = false := by
      cases ((k + (x[i].1.length : Int) + 1).tmod 3 == 0) <;> rfl
    have hs2 : (!(((k + (x[i].1.length : Int) + 1).tmod 3 == 0) == ((k + (x[i].1.length : Int) + 1).tmod 3 == 0))) = false := by
      cases ((k + (x[i].1.length : Int) + 1).tmod 3 == 0) <;> rfl
    rw [hs2, cond_false]
    rw [show k + (x[i].1.length : Int) + 1 + 1 = k + x[i].1.length + 2 by omega]
    rw [L81_2_val x y hl hy hg n (i + 1) _ (by omega) hd2 (by omega) (by omega), List.drop_eq_getElem_cons hix]
    rfl
theorem S81_val (x : List Atm) (k : Int) (h : x.length ≤ 1048576 ∧ ∀ a ∈ x, gA a) (h0 : 0 ≤ k) (h1 : k ≤ 10000000000000000) : S81 (mkAs x k) k = some ((mkN x k, ()), ()) := by
  rw [S81_eq]
  have := L81_2_val x (mkAs x k) h.1 (mkAs_len x k) h.2 x.length 0 k (by omega) rfl h0 (by have := h.1; omega)
  simpa using this
theorem S35_val (c : Cel) (k : Int) (h : gC c) (h0 : 0 ≤ k) (h1 : k ≤ 10000000000000000) : S35 c k = some ((mkN c.2 k, ()), (c.1, mkAs c.2 k), ()) := by
  rw [S35_eq, S80_val _ k h h0 h1]; rfl
theorem S37_val (c : Cel) (k : Int) (h : gC c) (h0 : 0 ≤ k) (h1 : k ≤ 10000000000000000) : S37 (c.1, mkAs c.2 k) k = some ((mkN c.2 k, ()), ()) := by
  have := mkN_ge c.2 k
  have hn : decide (mkN c.2 k < 0) = false := by simp; omega
  rw [S37_eq, S81_val _ k h h0 h1]
  simp only [Option.bind_some, hn, cond_false]

theorem law7 (c : Cel) (bs : List Int) (hc : WfD ty44 c) (hb : WfD ty45 bs) : S7 c bs = some ((true, ()), ()) := by
  rw [S7_eq]
  by_cases hbl : (bs.length : Int) > 1048576
  · simp [hbl]
  have hbl' : bs.length ≤ 1048576 := by omega
  obtain ⟨m, e1, e2⟩ := S28_val c 1048576 ⟨hc.2.1, fun a ha => (hc.2.2 a ha).1.1⟩ (by omega) (by omega)
  simp only [hbl, decide_false, cond_false, e1, Option.bind_some]
  by_cases hm : m < 0
  · simp [hm]
  obtain ⟨c1, c2, c3⟩ := e2.resolve_left hm
  simp only [hm, decide_false, cond_false, S30_val c c3, S31_val bs hbl', Option.bind_some, S29_val c bs c3.1, S32_val c bs, S33_val c c3, S34_val bs hbl', Bool.not_true]
  have hge := mkN_ge c.2 1
  have hle := mkN_le c.2 1 c3.2
  have hcl := c3.1
  rw [S35_val c 1 c3 (by omega) (by omega)]
  simp only [Option.bind_some]
  rw [S36_val bs (mkN c.2 1) hbl' (by omega) (by omega)]
  have hn1 : decide (mkN c.2 1 + (bs.length : Int) < 0) = false := by simp; omega
  simp only [Option.bind_some, hn1, cond_false]
  have fin : ∀ (r : Cel) (b : Bool), gC r → (okC (mvR c bs) = some ((r, b, ()), ())) → True := fun _ _ _ _ => trivial
  cases hr : mvR c bs with
  | none =>
    have g0 : gC (0, []) := ⟨by simp, by simp⟩
    simp only [okC, failC, Option.bind_some, S33_val _ g0, Bool.not_true, cond_false]
    simp only [S35_val _ 1 g0 (by omega) (by omega), Option.bind_some, S37_val _ 1 g0 (by omega) (by omega)]
    rfl
  | some r =>
    obtain ⟨g1, g2⟩ := mvR_g hr
    have hge2 := mkN_ge r.2 1
    have hn2 : decide (mkN r.2 1 < 0) = false := by simp; omega
    simp only [okC, Option.bind_some, S33_val _ g1, Bool.not_true, cond_false]
    simp only [S35_val _ 1 g1 (by omega) (by omega), Option.bind_some, S37_val _ 1 g1 (by omega) (by omega), hn2, cond_false, bne_self_eq_false]
    rfl
end Go.Proofs.Ytdfcejijcnhcaaa.D.It
