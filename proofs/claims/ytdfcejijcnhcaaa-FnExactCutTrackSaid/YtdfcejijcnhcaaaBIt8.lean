/- A part of the proof: It8. No conditions. -/
import Derived.Test.YtdfcejijcnhcaaaBIt7
set_option linter.unusedVariables false
set_option linter.unusedSimpArgs false
namespace Go.Proofs.Ytdfcejijcnhcaaa.B.It
open Am

/-! ### CutTrack -/
def within (f t : Int × Int) (s : Stp) : Bool := lessB f s.1 && lessB s.1 t
def cutEnd (f t : Int × Int) (q : Int × Int) (q2 : Int × Int) (y : List Stp) : List Stp × Bool := mvEnd (bif !(f.1 == t.1 && f.2 == t.2) then y ++ [(t, q, q2)] else y)
def stR (r : List Stp × Bool) : Option ((List Stp × Bool × PUnit) × PUnit) := some ((r.1, r.2, ()), ())

theorem L47_val (x : List Stp) (f t q q2 : Int × Int) (hl : x.length ≤ 6) : ∀ (n i : Nat) (y : List Stp), n + i = x.length → y.length ≤ i + 1 → L47_7 x f t [q, q2] y (i : Int) = stR (cutEnd f t q q2 (y ++ (x.drop i).filter (within f t)))
  | 0, i, y, hn, hy => by
    have g0 : getI [q, q2] 0 = some q := rfl
    have g1 : getI [q, q2] 1 = some q2 := rfl
    rw [L47_7_eq]
    have : decide ((i : Int) < (x.length : Int)) = false := by simp; omega
    rw [this, cond_false, List.drop_eq_nil_of_le (by omega)]
    simp only [g0, g1, Option.bind_some, List.filter_nil, List.append_nil, cutEnd]
    cases (!(f.fst == t.fst && f.snd == t.snd)) with
    | true =>
      have hd : decide ((y.length + [(t, q, q2)].length) * 48 ≤ 140737488355328) = true := by simp; omega
      simp only [cond_true, hd]
      rw [S14_val _ (by simp; omega)]
      simp only [Option.bind_some, mvEnd]
      cases isTrk (y ++ [(t, q, q2)]) <;> rfl
    | false =>
      simp only [cond_false]
      rw [S14_val _ (by omega)]
      simp only [Option.bind_some, mvEnd]
      cases isTrk y <;> rfl
  | n + 1, i, y, hn, hy => by
    rw [L47_7_eq]
    have hi : i < x.length := by omega
    have : decide ((i : Int) < (x.length : Int)) = true := by simp; omega
    have hd : decide ((y.length + [x[i]].length) * 48 ≤ 140737488355328) = true := by simp; omega
    rw [this, cond_true, getI_ok hi]
    simp only [Option.bind_some, S61_val, hd, cond_true]
    rw [show IntKind.i64.wrap ((i : Int) + 1) = ((i + 1 : Nat) : Int) by rw [wrap_id] <;> omega, L47_val x f t q q2 hl n (i + 1) _ (by omega) (by simp; omega), L47_val x f t q q2 hl n (i + 1) _ (by omega) (by omega),
      List.drop_eq_getElem_cons hi, List.filter_cons]
    unfold within
    cases lessB f x[i].1 <;> cases lessB x[i].1 t <;> simp [List.append_assoc]

theorem L48_val (x : List Stp) (f t q q2 : Int × Int) (hx : isTrk x = true) (hf : ratB f = true) (ht : ratB t = true) : ∀ (n i : Nat) (y : List Stp), n + i = x.length → y.length ≤ i + 1 → L48_7 x f t [q, q2] y x (x.length : Int) (i : Int) = stR (cutEnd f t q q2 (y ++ (x.drop i).filter (within f t)))
  | 0, i, y, hn, hy => by
    have hl := isTrk_len hx
    have g0 : getI [q, q2] 0 = some q := rfl
    have g1 : getI [q, q2] 1 = some q2 := rfl
    rw [L48_7_eq]
    have : decide ((i : Int) < (x.length : Int)) = false := by simp; omega
    rw [this, cond_false, List.drop_eq_nil_of_le (by omega)]
    have hsym : (t.fst == f.fst && t.snd == f.snd) = (f.fst == t.fst && f.snd == t.snd) := by rw [BEq.comm (a := t.fst), BEq.comm (a := t.snd)]
    simp only [g0, g1, Option.bind_some, List.filter_nil, List.append_nil, cutEnd, hsym]
    cases (!(f.fst == t.fst && f.snd == t.snd)) with
    | true =>
      have hd : decide ((y.length + [(t, q, q2)].length) * 48 ≤ 140737488355328) = true := by simp; omega
      simp only [cond_true, hd]
      rw [S16_val _ (by simp; omega)]
      simp only [Option.bind_some, mvEnd]
      cases isTrk (y ++ [(t, q, q2)]) <;> rfl
    | false =>
      simp only [cond_false]
      rw [S16_val _ (by omega)]
      simp only [Option.bind_some, mvEnd]
      cases isTrk y <;> rfl
  | n + 1, i, y, hn, hy => by
    have hl := isTrk_len hx
    rw [L48_7_eq]
    have hi : i < x.length := by omega
    have s1 := isTrk_spec hx i hi
    have : decide ((i : Int) < (x.length : Int)) = true := by simp; omega
    have hd : decide ((y.length + [x[i]].length) * 48 ≤ 140737488355328) = true := by simp; omega
    rw [this, cond_true, getI_ok hi]
    simp only [Option.bind_some, cmp_val s1.1 hf, cmp_val s1.1 ht, hd, cond_true]
    rw [show IntKind.i64.wrap ((i : Int) + 1) = ((i + 1 : Nat) : Int) by rw [wrap_id] <;> omega, L48_val x f t q q2 hx hf ht n (i + 1) _ (by omega) (by simp; omega), L48_val x f t q q2 hx hf ht n (i + 1) _ (by omega) (by omega),
      List.drop_eq_getElem_cons hi, List.filter_cons]
    have e1 : decide ((bif lessB x[i].1 f then -1 else bif lessB f x[i].1 then 1 else 0 : Int) > 0) = lessB f x[i].1 := by
      cases h : lessB x[i].1 f with
      | true => rw [less_asym s1.1 hf h]; rfl
      | false => cases lessB f x[i].1 <;> rfl
    have e2 : decide ((bif lessB x[i].1 t then -1 else bif lessB t x[i].1 then 1 else 0 : Int) < 0) = lessB x[i].1 t := by
      cases lessB x[i].1 t with
      | true => rfl
      | false => cases lessB t x[i].1 <;> rfl
    rw [e1, e2]
    unfold within
    cases lessB f x[i].1 <;> cases lessB x[i].1 t <;> simp [List.append_assoc]

theorem two_of {x : Pt} (h : x.length = 2) : ∃ p q, x = [p, q] := by
  match x, h with
  | [p, q], _ => exact ⟨p, q, rfl⟩

theorem cut_same (x : List Stp) (f t : Int × Int) (hl : x.length ≤ 1048576) : ∃ r ok, S47 x f t = some ((r, ok, ()), ()) ∧ S48 x f t = some ((r, ok, ()), ()) ∧ r.length ≤ 10 := by
  rw [S47_eq, S48_eq, S43_val x f hl, S43_val x t hl, S41_val x f hl, S41_val x t hl]
  simp only [ptR, Option.bind_some]
  have p1 := (posB_len x f).2
  have p2 := (posB_len x t).2
  generalize posB x f = pf at p1 ⊢
  generalize posB x t = pt at p2 ⊢
  obtain ⟨pf, bf⟩ := pf
  obtain ⟨pt, bt⟩ := pt
  simp only at p1 p2 ⊢
  cases bf with
  | false => exact ⟨[], false, rfl, rfl, by simp⟩
  | true =>
    cases bt with
    | false => exact ⟨[], false, rfl, rfl, by simp⟩
    | true =>
      obtain ⟨l1, hx, hf⟩ := p1 rfl
      obtain ⟨l2, _, ht⟩ := p2 rfl
      obtain ⟨a, b, rfl⟩ := two_of l1
      obtain ⟨c, d, rfl⟩ := two_of l2
      have hn := isTrk_len hx
      have g0 : ∀ p q : Int × Int, getI [p, q] 0 = some p := fun _ _ => rfl
      have g1 : ∀ p q : Int × Int, getI [p, q] 1 = some q := fun _ _ => rfl
      simp only [Bool.not_true, cond_false, S61_val, cmp_val ht hf, Option.bind_some, g0, g1]
      have e1 : decide ((bif lessB t f then -1 else bif lessB f t then 1 else 0 : Int) < 0) = lessB t f := by
        cases lessB t f with
        | true => rfl
        | false => cases lessB f t <;> rfl
      rw [e1]
      cases lessB t f with
      | true => exact ⟨[], false, rfl, rfl, by simp⟩
      | false =>
        simp only [cond_false]
        refine ⟨_, _, L47_val x f t c d hn.2 x.length 0 _ (by omega) (by simp), L48_val x f t c d hx hf ht x.length 0 _ (by omega) (by simp), ?_⟩
        unfold cutEnd
        refine Nat.le_trans (mvEnd_len _) ?_
        have hfl := List.length_filter_le (within f t) (x.drop 0)
        rw [List.length_drop] at hfl
        cases (!(f.fst == t.fst && f.snd == t.snd)) <;> simp only [cond_true, cond_false, List.length_append, List.length_cons, List.length_nil] <;> omega

theorem law10 (a : List Stp) (f t : Int × Int) (ha : a.length ≤ maxLen) : S10 a f t = some ((true, ()), ()) := by
  have hm : maxLen = 9223372036854775807 := by decide
  rw [hm] at ha
  rw [S10_eq]
  obtain ⟨m, h1, h2⟩ := S13_val a 1048576 (by omega) (by omega) (by omega)
  rw [h1]
  simp only [Option.bind_some]
  by_cases hm0 : m < 0
  · simp [hm0]
  obtain ⟨c1, c2, c3⟩ := h2.resolve_left hm0
  simp only [hm0, decide_false, cond_false]
  have la : a.length ≤ 1048576 := by omega
  obtain ⟨r, ok, j1, j2, j3⟩ := cut_same a f t la
  have hr : r.length ≤ 1048576 := by omega
  simp only [S15_val a la, S23_val, Option.bind_some, j1, j2, S17_val r hr, S17_val a la, Bool.not_true, cond_false]
  have hok : (!(ok == ok)) = false := by cases ok <;> rfl
  rw [S20_val la (by omega) (by omega)]
  simp only [Option.bind_some]
  rw [S20_val (k := 1) hr (by omega) (by omega)]
  simp only [Option.bind_some]
  rw [S21_val hr (by omega) (by omega)]
  have hk : decide (1 + 6 * (a.length : Int) < 0) = false := by simp; omega
  have hk2 : decide (1 + 6 * (r.length : Int) < 0) = false := by simp; omega
  simp only [Option.bind_some, hok, cond_false, hk, hk2, bne_self_eq_false]
end Go.Proofs.Ytdfcejijcnhcaaa.B.It
