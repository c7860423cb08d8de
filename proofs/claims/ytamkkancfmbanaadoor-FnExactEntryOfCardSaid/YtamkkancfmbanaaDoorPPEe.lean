/- A part of the proof: PEe. No conditions. -/
import Derived.Test.YtamkkancfmbanaaDoorPIt3e
import Derived.Test.YtamkkancfmbanaaDoorPG7
set_option linter.unusedVariables false
set_option linter.unusedSimpArgs false
namespace Go.Proofs.YtamkkancfmbanaaDoor.P.It
open Am

/-! ### texts of numbers -/
theorem wrap_id {x : Int} (h1 : -9223372036854775808 ≤ x) (h2 : x ≤ 9223372036854775807) : IntKind.i64.wrap x = x := by
  rw [IntKind.wrap_i64]; omega
def BT (l : List UInt8) : ByteArray := ⟨l.toArray⟩
theorem BT_app (a b : List UInt8) : BT a ++ BT b = BT (a ++ b) := by
  apply ByteArray.ext
  show (BT a ++ BT b).data = _
  simp [BT]
theorem BT_size (a : List UInt8) : (BT a).size = a.length := by simp [BT, ByteArray.size]
theorem size_app (a b : ByteArray) : (a ++ b).size = a.size + b.size := by simp
theorem digit_is : ∀ d : Nat, d < 10 → (ByteArray.mk #[48, 49, 50, 51, 52, 53, 54, 55, 56, 57]).extract d (d + 1) = BT [UInt8.ofNat (48 + d)]
  | 0, _ => by rfl
  | 1, _ => by rfl
  | 2, _ => by rfl
  | 3, _ => by rfl
  | 4, _ => by rfl
  | 5, _ => by rfl
  | 6, _ => by rfl
  | 7, _ => by rfl
  | 8, _ => by rfl
  | 9, _ => by rfl
  | n + 10, h => by omega
theorem dec_step {u : Nat} (h : ¬ u < 10) : Lib.decDigits u = Lib.decDigits (u / 10) ++ [UInt8.ofNat (48 + u % 10)] := by
  rw [Lib.decDigits, dif_neg h]
theorem dec_len : ∀ (k u : Nat), u < 10 ^ (k + 1) → (Lib.decDigits u).length ≤ k + 1
  | 0, u, h => by rw [Lib.decDigits_one (by simpa using h)]; simp
  | k + 1, u, h => by
    by_cases h10 : u < 10
    · rw [Lib.decDigits_one h10]; simp
    · rw [dec_step h10, List.length_append]
      have := dec_len k (u / 10) (by rw [Nat.pow_succ] at h; omega)
      simp; omega
theorem fmt_loop (n : Int) : ∀ (k u : Nat) (s : List UInt8), u < 10 ^ k → 0 < u → k ≤ 18 → s.length + k ≤ 1000 → Ls_FormatInt_3 n (BT s) (u : Int) = Ls_FormatInt_3 n (BT (Lib.decDigits u ++ s)) 0
  | 0, u, s, h, h0, _, _ => by simp at h; omega
  | k + 1, u, s, h, h0, h18, hs => by
    have hu : u < 10 ^ 18 := Nat.lt_of_lt_of_le h (Nat.pow_le_pow_right (by omega) h18)
    rw [Ls_FormatInt_3_eq]
    have e1 : ((u : Int) != 0) = true := by rw [bne_iff_ne]; omega
    have e2 : (u : Int).tmod 10 = ((u % 10 : Nat) : Int) := by rw [Int.tmod_eq_emod_of_nonneg (by omega)]; omega
    have e3 : (u : Int).tdiv 10 = ((u / 10 : Nat) : Int) := by rw [Int.tdiv_eq_ediv_of_nonneg (by omega)]; omega
    have hm : u % 10 < 10 := Nat.mod_lt _ (by omega)
    have e4 : decide (((u % 10 : Nat) : Int) < 0) = false := decide_eq_false (by omega)
    have e5 : IntKind.i64.wrap (((u % 10 : Nat) : Int) + 1) = ((u % 10 + 1 : Nat) : Int) := by rw [wrap_id] <;> omega
    have e6 : IntKind.i64.wrap ((u / 10 : Nat) : Int) = ((u / 10 : Nat) : Int) := wrap_id (by omega) (by omega)
    have e7 : (decide (0 ≤ ((u % 10 : Nat) : Int)) && decide (((u % 10 : Nat) : Int) ≤ ((u % 10 + 1 : Nat) : Int)) && decide (((u % 10 + 1 : Nat) : Int) ≤ ((ByteArray.mk #[48, 49, 50, 51, 52, 53, 54, 55, 56, 57]).size : Int))) = true := by
      have : (ByteArray.mk #[48, 49, 50, 51, 52, 53, 54, 55, 56, 57]).size = 10 := rfl
      rw [this]
      simp only [Bool.and_eq_true, decide_eq_true_eq]
      omega
    rw [e1, cond_true, e2, e4, cond_false, e3, e5, e6, e7, cond_true, Int.toNat_natCast, Int.toNat_natCast, digit_is _ hm]
    have e8 : decide ((BT [UInt8.ofNat (48 + u % 10)]).size + (BT s).size ≤ 140737488355328) = true := by
      rw [BT_size, BT_size]; simp; omega
    rw [e8, cond_true, BT_app]
    by_cases h10 : u < 10
    · rw [show u / 10 = 0 by omega, Lib.decDigits_one h10, show u % 10 = u by omega]; rfl
    · rw [fmt_loop n k (u / 10) _ (by rw [Nat.pow_succ] at h; omega) (by omega) (by omega) (by simp; omega), dec_step h10, List.append_assoc]
theorem fmt_end {n : Int} (h : 0 < n) (s : ByteArray) : Ls_FormatInt_3 n s 0 = some ((s, ()), ()) := by
  rw [Ls_FormatInt_3_eq]
  have e1 : (n == 0) = false := by rw [beq_eq_false_iff_ne]; omega
  have e2 : decide (n < 0) = false := decide_eq_false (by omega)
  simp [e1, e2]
theorem Ss_FormatInt_val (u : Nat) (h : u < 10000) : Ss_FormatInt (u : Int) = some ((BT (Lib.decDigits u), ()), ()) := by
  rw [Ss_FormatInt_eq]
  by_cases h0 : u = 0
  · subst h0
    rw [Ls_FormatInt_3_eq]
    rw [Lib.decDigits_one (by omega)]
    rfl
  · have := fmt_loop (u : Int) 4 u [] (by omega) (by omega) (by omega) (by simp)
    rw [List.append_nil] at this
    exact this.trans (fmt_end (by omega) _)
theorem Si_FormatInt_val (u : Nat) (h : u < 10000) : Si_FormatInt (u : Int) = some ((BT (Lib.decDigits u), ()), ()) := by
  rw [Si_FormatInt_eq]
  have : Sstrconv__Itoa (u : Int) = some ((BT (Lib.decDigits u), ()), ()) := by
    show itoaSem ((u : Int), ()) = _
    unfold itoaSem
    rw [if_pos ⟨by show _ ≤ (u : Int); omega, by show (u : Int) ≤ _; omega⟩, Lib.itoa_nonneg]
    rfl
  rw [this]
  rfl

/-! ### checks -/
def ckL : List UInt8 → Int → Int
  | [], k => k
  | b :: l, k => ckL l ((k * 31 + ((b.toNat : Nat) : Int)).tmod 9973)
def ckOk (k : Int) : Prop := 0 ≤ k ∧ k < 9973
theorem ck_step {k : Int} (h : ckOk k) (b : UInt8) : ckOk ((k * 31 + ((b.toNat : Nat) : Int)).tmod 9973) := by
  obtain ⟨h1, h2⟩ := h
  have := b.toNat_lt
  exact ⟨Int.tmod_nonneg _ (by omega), Int.tmod_lt_of_pos _ (by omega)⟩
theorem ckL_ok : ∀ (l : List UInt8) (k : Int), ckOk k → ckOk (ckL l k)
  | [], _, h => h
  | b :: l, k, h => ckL_ok l _ (ck_step h b)
theorem getB_ok {x : ByteArray} {i : Nat} (h : i < x.data.toList.length) : getB x (i : Int) = some ((x.data.toList[i].toNat : Nat) : Int) := by
  have h2 : i < x.size := by simpa using h
  unfold getB
  rw [if_pos (by omega), Int.toNat_natCast, getElem?_pos x i h2]
  rfl
theorem size_is (x : ByteArray) : x.size = x.data.toList.length := by simp
theorem Ls_l11Check_3_val (x : ByteArray) (hl : x.size ≤ 1048576) : ∀ (n i : Nat) (k : Int), n + i = x.size → ckOk k → Ls_l11Check_3 x k (i : Int) = some ((ckL (x.data.toList.drop i) k, ()), ())
  | 0, i, k, hn, hk => by
    rw [Ls_l11Check_3_eq]
    have : decide ((i : Int) < (x.size : Int)) = false := decide_eq_false (by omega)
    rw [this, cond_false, List.drop_eq_nil_of_le (by rw [← size_is]; omega)]
    rfl
  | n + 1, i, k, hn, hk => by
    rw [Ls_l11Check_3_eq]
    have hi : i < x.data.toList.length := by rw [← size_is]; omega
    have : decide ((i : Int) < (x.size : Int)) = true := decide_eq_true (by omega)
    have hb := (x.data.toList[i]).toNat_lt
    obtain ⟨h1, h2⟩ := hk
    rw [this, cond_true, getB_ok hi]
    simp only [Option.bind_some]
    rw [wrap_id (x := k * 31) (by omega) (by omega), wrap_id (x := (((x.data.toList[i]).toNat : Nat) : Int)) (by omega) (by omega), wrap_id (x := k * 31 + _) (by omega) (by omega),
      show IntKind.i64.wrap ((i : Int) + 1) = ((i + 1 : Nat) : Int) by rw [wrap_id] <;> omega, Ls_l11Check_3_val x hl n (i + 1) _ (by omega) (ck_step ⟨h1, h2⟩ _), List.drop_eq_getElem_cons hi]
    rfl
theorem Li_EntryOf_5_val (n0 : Int) (x : ByteArray) (hl : x.size ≤ 1048576) : ∀ (n i : Nat) (k : Int), n + i = x.size → ckOk k → Li_EntryOf_5 n0 x k (i : Int) = Li_EntryOf_5 n0 x (ckL (x.data.toList.drop i) k) (x.size : Int)
  | 0, i, k, hn, hk => by
    obtain rfl : i = x.size := by omega
    rw [List.drop_eq_nil_of_le (by rw [← size_is]; omega)]
    rfl
  | n + 1, i, k, hn, hk => by
    rw [Li_EntryOf_5_eq]
    have hi : i < x.data.toList.length := by rw [← size_is]; omega
    have : decide ((i : Int) < (x.size : Int)) = true := decide_eq_true (by omega)
    have hb := (x.data.toList[i]).toNat_lt
    obtain ⟨h1, h2⟩ := hk
    rw [this, cond_true, getB_ok hi]
    simp only [Option.bind_some]
    rw [Int.mul_comm 31 k, wrap_id (x := k * 31) (by omega) (by omega), wrap_id (x := (((x.data.toList[i]).toNat : Nat) : Int)) (by omega) (by omega), wrap_id (x := k * 31 + _) (by omega) (by omega),
      show IntKind.i64.wrap ((i : Int) + 1) = ((i + 1 : Nat) : Int) by rw [wrap_id] <;> omega, Li_EntryOf_5_val n0 x hl n (i + 1) _ (by omega) (ck_step ⟨h1, h2⟩ _), List.drop_eq_getElem_cons hi]
    rfl
def entB (n : Int) (x : ByteArray) : ByteArray := bif decide (n < 0) || (decide (n > 40) || decide ((x.size : Int) > 2000)) then ByteArray.mk #[] else
  BT (Lib.decDigits n.toNat) ++ ByteArray.mk #[58] ++ x ++ ByteArray.mk #[58] ++ BT (Lib.decDigits (ckL x.data.toList n).toNat)
theorem ent_vals (n : Int) (x : ByteArray) (hl : x.size ≤ 1048576) : Ss_EntryOf n x = some ((entB n x, ()), ()) ∧ Si_EntryOf n x = some ((entB n x, ()), ()) := by
  rw [Ss_EntryOf_eq, Si_EntryOf_eq, Ss_l1In_eq]
  unfold entB
  by_cases h0 : n < 0
  · have h1 : ¬ n ≥ 0 := by omega
    simp [h0, h1]
  by_cases h4 : n > 40
  · have h1 : n ≥ 0 := by omega
    have h2 : ¬ n ≤ 40 := by omega
    simp [h0, h1, h2, h4]
  by_cases hs : (x.size : Int) > 2000
  · have h1 : n ≥ 0 := by omega
    have h2 : n ≤ 40 := by omega
    simp [h0, h1, h2, h4, hs]
  have h1 : n ≥ 0 := by omega
  have h2 : n ≤ 40 := by omega
  have hk : ckOk n := ⟨h1, by omega⟩
  have hc := ckL_ok x.data.toList n hk
  have f1 : Ss_FormatInt n = some ((BT (Lib.decDigits n.toNat), ()), ()) := by
    have := Ss_FormatInt_val n.toNat (by omega)
    rwa [show ((n.toNat : Nat) : Int) = n by omega] at this
  have f2 : Si_FormatInt n = some ((BT (Lib.decDigits n.toNat), ()), ()) := by
    have := Si_FormatInt_val n.toNat (by omega)
    rwa [show ((n.toNat : Nat) : Int) = n by omega] at this
  have g1 : Ls_l11Check_3 x n 0 = some ((ckL x.data.toList n, ()), ()) := by simpa using Ls_l11Check_3_val x hl x.size 0 n (by omega) hk
  have g2 : Li_EntryOf_5 n x n 0 = Li_EntryOf_5 n x (ckL x.data.toList n) (x.size : Int) := by simpa using Li_EntryOf_5_val n x hl x.size 0 n (by omega) hk
  generalize ckL x.data.toList n = k at hc g1 g2 ⊢
  obtain ⟨c1, c2⟩ := hc
  have f3 : Ss_FormatInt k = some ((BT (Lib.decDigits k.toNat), ()), ()) := by
    have := Ss_FormatInt_val k.toNat (by omega)
    rwa [show ((k.toNat : Nat) : Int) = k by omega] at this
  have f4 : Si_FormatInt k = some ((BT (Lib.decDigits k.toNat), ()), ()) := by
    have := Si_FormatInt_val k.toNat (by omega)
    rwa [show ((k.toNat : Nat) : Int) = k by omega] at this
  have l1 := dec_len 3 n.toNat (by omega)
  have l2 := dec_len 3 k.toNat (by omega)
  rw [← BT_size] at l1 l2
  have z : (ByteArray.mk #[58]).size = 1 := rfl
  have d1 : decide ((BT (Lib.decDigits n.toNat)).size + (ByteArray.mk #[58]).size ≤ 140737488355328) = true := decide_eq_true (by omega)
  have d2 : decide ((BT (Lib.decDigits n.toNat) ++ ByteArray.mk #[58]).size + x.size ≤ 140737488355328) = true := decide_eq_true (by rw [size_app]; omega)
  have d3 : decide ((BT (Lib.decDigits n.toNat) ++ ByteArray.mk #[58] ++ x).size + (ByteArray.mk #[58]).size ≤ 140737488355328) = true := decide_eq_true (by rw [size_app, size_app]; omega)
  have d4 : decide ((BT (Lib.decDigits n.toNat) ++ ByteArray.mk #[58] ++ x ++ ByteArray.mk #[58]).size + (BT (Lib.decDigits k.toNat)).size ≤ 140737488355328) = true := decide_eq_true (by rw [size_app, size_app, size_app]; omega)
  have q0 : decide (n < 0) = false := decide_eq_false h0
  have q1 : decide (n ≥ 0) = true := decide_eq_true h1
  have q2 : decide (n ≤ 40) = true := decide_eq_true h2
  have q4 : decide (n > 40) = false := decide_eq_false h4
  have qs : decide ((x.size : Int) > 2000) = false := decide_eq_false hs
  constructor
  · rw [q1, cond_true, q2, q0, q4, qs]
    simp only [Option.bind_some, Bool.not_true, cond_false, Bool.or_self]
    rw [f1]
    simp only [Option.bind_some, d1, d2, d3, cond_true, Ss_l11Check_eq, g1, f3, d4]
  · rw [q0, q4, qs]
    simp only [cond_false, Bool.or_self]
    rw [g2, Li_EntryOf_5_eq]
    have : decide ((x.size : Int) < (x.size : Int)) = false := decide_eq_false (by omega)
    rw [this, cond_false, f2]
    simp only [Option.bind_some, d1, d2, d3, cond_true, f4, d4]
theorem law_EntryOf (n : Int) (x : ByteArray) : Sw_FnExactEntryOf n x = some ((true, ()), ()) := by
  rw [Sw_FnExactEntryOf_eq]
  by_cases hb : (x.size : Int) > 1048576
  · rw [decide_eq_true hb]; rfl
  rw [decide_eq_false hb, cond_false, (ent_vals n x (by omega)).1, (ent_vals n x (by omega)).2]
  simp only [Option.bind_some, beq_self_eq_true, Bool.not_true, cond_false]
end Go.Proofs.YtamkkancfmbanaaDoor.P.It
