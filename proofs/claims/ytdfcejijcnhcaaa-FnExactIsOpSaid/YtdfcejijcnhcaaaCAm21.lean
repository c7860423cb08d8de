/- A part of the proof: Am21. No conditions. -/
import Derived.Test.YtdfcejijcnhcaaaCAm20
set_option linter.unusedVariables false
set_option linter.unusedSimpArgs false
namespace Go.Proofs.Ytdfcejijcnhcaaa.C.Am

/-! ## 21. A region, in whatever order -/
def Act1 (P : Program) (ops : Array Oper) (J : List V → Act → World → Prop) (Q : Exit → Act → World → Prop) (o : Oper) (T T' : List V) : Prop :=
  ∀ (a : Act) (w : World), J T a w → ∀ K : Act → World → Prop, (∀ a' w', J T' a' w' → K a' w') →
    if Region.wanted o (yielded ops a.tmps) = true then o.wp P a w K Q else K (a.put o.dst undef) w

/-- What conflicts is in order. -/
def Tied (ops : Array Oper) (recs : List Rec) : Prop :=
  ∀ i j ri rj, i < j → recs[i]? = some ri → recs[j]? = some rj → (∃ s, s < tagK ∧ ((s ∈ ri.wr ∧ s ∈ rj.rd) ∨ (s ∈ rj.wr ∧ s ∈ ri.rd))) →
    ((preds ops.toList []).getD j 0).testBit i = true

section
variable {P : Program} {ops : Array Oper} {J : List V → Act → World → Prop} {Q : Exit → Act → World → Prop} {N : Nat} {recs : List Rec} {T0 : List V}

theorem wpOps_step {i : Nat} {o : Oper} {l : List Nat} {a : Act} {w : World} (ho : ops[i]? = some o)
    (h : if Region.wanted o (yielded ops a.tmps) = true then o.wp P a w (wpOps P ops Q l) Q else wpOps P ops Q l (a.put o.dst undef) w) : wpOps P ops Q (i :: l) a w := by
  simp only [wpOps, ho]
  split
  · rename_i hw
    rw [if_pos hw] at h
    exact .inl h
  · rename_i hw
    rw [if_neg hw] at h
    exact h

theorem mem_wr_rd {r : Rec} {s : Nat} (h : s ∈ r.wr) : s ∈ r.rd := List.mem_append_right _ h

theorem region_any (hT0 : T0.length = N) (hN : N ≤ tagK) (hn : recs.length = ops.size) (hask : ∀ r ∈ recs, ∀ s ∈ r.1, tagK ≤ s → askOk s T0 = true ∧ ∀ r' ∈ recs, ∀ u ∈ r'.2, qok s u.1 u.2 = true)
    (hloc : ∀ i o r, ops[i]? = some o → recs[i]? = some r → ∀ T, T.length = N → (∀ s ∈ r.rd, s < tagK → T.getD s .dead = (stD (fun j => decide (j < i)) 0 recs T0).getD s .dead) → (∀ s ∈ r.1, tagK ≤ s → askOk s T = true) → Act1 P ops J Q o T (setAll T r.2))
    (hc : Tied ops recs) (hQ : ∀ a' w', J (stD (fun _ => true) 0 recs T0) a' w' → Q .normal a' w') :
    ∀ (l done : List Nat), Ordered ops done l → Closed ops (· ∈ done) → (∀ i, i < ops.size → i ∈ done ∨ i ∈ l) → ∀ a w, J (stD (fun j => done.contains j) 0 recs T0) a w → wpOps P ops Q l a w
  | [], done, _, _, hall, a, w, hJ => by
    simp only [wpOps]
    apply hQ
    have : stD (fun _ => true) 0 recs T0 = stD (fun j => done.contains j) 0 recs T0 := by
      refine list_ext (by rw [stD_length, stD_length]) (fun s => stD_congr rfl rfl (fun j r hj _ => ?_))
      have hlt : j < ops.size := by
        rw [← hn]
        exact (List.getElem?_eq_some_iff.1 hj).1
      have := (hall j hlt).resolve_right (by simp)
      simp [this]
    rw [this]
    exact hJ
  | i :: l, done, ⟨hid, hlt, haf, hord⟩, hcl, hall, a, w, hJ => by
    obtain ⟨r, hr⟩ : ∃ r, recs[i]? = some r := ⟨_, List.getElem?_eq_getElem (by rw [hn]; exact hlt)⟩
    have ho : ops[i]? = some ops[i] := Array.getElem?_eq_getElem hlt
    refine wpOps_step ho ?_
    -- whom i stands behind is done
    have hpred : ∀ k, ((preds ops.toList []).getD i 0).testBit k = true → k ∈ i :: done → True := fun _ _ _ => trivial
    have hcl' : Closed ops (· ∈ i :: done) := by
      intro j hj o' ho' e he hb
      rcases List.mem_cons.1 hj with rfl | hj
      · exact List.mem_cons_of_mem _ (haf o' ho' e he hb)
      · exact List.mem_cons_of_mem _ (hcl j hj o' ho' e he hb)
    have hpre : ∀ {D : Nat → Prop}, Closed ops D → ∀ j k, D j → ((preds ops.toList []).getD j 0).testBit k = true → D k := fun hD j k hj hk =>
      preds_closed hD (l := ops.toList) (acc := []) (fun j o hj => by simpa using hj) (fun j k _ h => by simp at h) j k hj hk
    -- a record that touches what i touches is done exactly if it stands before i
    have hkey : ∀ j rj s, recs[j]? = some rj → j ≠ i → s < tagK → (s ∈ rj.wr ∧ s ∈ r.rd) → (done.contains j = decide (j < i)) := by
      intro j rj s hj hji hsk hs
      rcases Nat.lt_or_gt_of_ne hji with h | h
      · have := hc j i rj r h hj hr ⟨s, hsk, .inl hs⟩
        have := hpre hcl' i j (by simp) this
        have hjd : j ∈ done := by
          rcases List.mem_cons.1 this with rfl | h
          · exact absurd rfl hji
          · exact h
        simp [hjd, h]
      · have hp := hc i j r rj h hr hj ⟨s, hsk, .inr hs⟩
        have hjd : j ∉ done := fun hjd => hid (hpre hcl j i hjd hp)
        simp [hjd]
        omega
    have hagree : ∀ s ∈ r.rd, s < tagK → (stD (fun j => done.contains j) 0 recs T0).getD s .dead = (stD (fun j => decide (j < i)) 0 recs T0).getD s .dead := by
      intro s hs hsk
      refine stD_congr rfl rfl (fun j rj hj hw => ?_)
      simp only [Nat.zero_add]
      by_cases hji : j = i
      · subst hji
        simp [hid]
      · exact hkey j rj s hj hji hsk ⟨hw, hs⟩
    have hact := hloc i _ r ho hr _ (by rw [stD_length, hT0]) hagree (fun s hs hk => by
      obtain ⟨h1, h2⟩ := hask r (List.mem_of_getElem? hr) s hs hk
      exact stD_ask h2 h1) a w hJ
    refine hact _ (fun a' w' hJ' => region_any hT0 hN hn hask hloc hc hQ l (i :: done) hord hcl' (fun k hk => ?_) a' w' ?_)
    · rcases hall k hk with h | h
      · exact .inl (by simp [h])
      · rcases List.mem_cons.1 h with rfl | h
        · exact .inl (by simp)
        · exact .inr h
    · have : stD (fun j => (i :: done).contains j) 0 recs T0 = setAll (stD (fun j => done.contains j) 0 recs T0) r.2 := by
        refine list_ext (by rw [stD_length, length_setAll, stD_length]) (fun s => ?_)
        by_cases hsk : s < tagK
        case neg => rw [getD_out (by rw [stD_length, hT0]; omega), getD_out (by rw [length_setAll, stD_length, hT0]; omega)]
        by_cases hs : s ∈ r.wr
        · have h1 : (setAll (stD (fun j => done.contains j) 0 recs T0) r.2).getD s .dead = (setAll (stD (fun j => decide (j < i)) 0 recs T0) r.2).getD s .dead :=
            setAll_getD_congr (by rw [stD_length, stD_length]) (hagree s (mem_wr_rd hs) hsk)
          have h2 := stD_lt_succ (i := 0) (T := T0) hr
          simp only [Nat.zero_add] at h2
          rw [h1, ← h2]
          refine stD_congr rfl rfl (fun j rj hj hw => ?_)
          simp only [Nat.zero_add]
          by_cases hji : j = i
          · subst hji
            simp
          · have h3 := hkey j rj s hj hji hsk ⟨hw, mem_wr_rd hs⟩
            simp only [List.contains_cons, h3]
            have : (j == i) = false := by simpa using hji
            rw [this, Bool.false_or]
            simp
            omega
        · rw [getD_setAll _ _ _ hs]
          refine stD_congr rfl rfl (fun j rj hj hw => ?_)
          simp only [Nat.zero_add]
          have hji : j ≠ i := by
            rintro rfl
            rw [hr] at hj
            injection hj with hj
            subst hj
            exact hs hw
          simp [hji]
      rw [this]
      exact hJ'

/-- Bits of a list. -/
def mask : List Nat → Nat
  | [] => 0
  | s :: l => cond (Nat.blt s tagK) (2 ^ s ||| mask l) (mask l)

theorem mask_bit {l : List Nat} {s : Nat} (h : s ∈ l) (hk : s < tagK) : (mask l).testBit s = true := by
  induction l with
  | nil => cases h
  | cons x l ih =>
    simp only [mask]
    cases hx : Nat.blt x tagK with
    | true =>
      simp only [cond_true, Nat.testBit_or, Bool.or_eq_true]
      rcases List.mem_cons.1 h with rfl | h
      · left; simp [Nat.testBit_two_pow]
      · exact .inr (ih h)
    | false =>
      rcases List.mem_cons.1 h with rfl | h
      · have : Nat.blt s tagK = true := by rw [Nat.blt_eq]; exact hk
        rw [hx] at this; cases this
      · exact ih h

def tiedAt (pj rj wj : Nat) : Nat → List (Nat × Nat) → Bool
  | _, [] => true
  | i, (ri, wi) :: l => ((wi &&& rj == 0 && wj &&& ri == 0) || pj.testBit i) && tiedAt pj rj wj (i + 1) l

def tiedB : List Nat → List (Nat × Nat) → List (Nat × Nat) → Bool
  | pj :: ps, done, (rj, wj) :: l => tiedAt pj rj wj 0 done && tiedB ps (done ++ [(rj, wj)]) l
  | _, _, _ => true

theorem tiedAt_spec {pj rj wj : Nat} : {i : Nat} → {l : List (Nat × Nat)} → tiedAt pj rj wj i l = true → ∀ k ri wi, l[k]? = some (ri, wi) → (wi &&& rj = 0 ∧ wj &&& ri = 0) ∨ pj.testBit (i + k) = true
  | _, [], _, k, ri, wi, hk => by simp at hk
  | i, (r, w) :: l, h, k, ri, wi, hk => by
    simp only [tiedAt, Bool.and_eq_true, Bool.or_eq_true, beq_iff_eq] at h
    cases k with
    | zero =>
      simp only [List.getElem?_cons_zero, Option.some.injEq, Prod.mk.injEq] at hk
      obtain ⟨rfl, rfl⟩ := hk
      exact h.1
    | succ k =>
      have := tiedAt_spec h.2 k ri wi (by simpa using hk)
      rwa [show i + 1 + k = i + (k + 1) by omega] at this

theorem tiedB_spec : {ps : List Nat} → {done l : List (Nat × Nat)} → tiedB ps done l = true → ps.length = l.length → ∀ k pj rj wj, ps[k]? = some pj → l[k]? = some (rj, wj) →
    ∀ i ri wi, i < done.length + k → (done ++ l)[i]? = some (ri, wi) → (wi &&& rj = 0 ∧ wj &&& ri = 0) ∨ pj.testBit i = true
  | [], _, _, _, _, _, _, _, _, hk, _, _, _, _, _, _ => by simp at hk
  | p :: ps, done, [], _, hl, _, _, _, _, _, _, _, _, _, _, _ => by simp at hl
  | p :: ps, done, (r, w) :: l, h, hl, k, pj, rj, wj, hk, hj, i, ri, wi, hi, hii => by
    simp only [tiedB, Bool.and_eq_true] at h
    cases k with
    | zero =>
      simp only [List.getElem?_cons_zero, Option.some.injEq, Prod.mk.injEq] at hk hj
      subst hk
      obtain ⟨rfl, rfl⟩ := hj
      rw [List.getElem?_append_left (by simpa using hi)] at hii
      have := tiedAt_spec h.1 i ri wi hii
      simpa using this
    | succ k =>
      refine tiedB_spec h.2 (by simpa using hl) k pj rj wj (by simpa using hk) (by simpa using hj) i ri wi (by simp; omega) ?_
      simpa using hii

theorem preds_length : {l : List Oper} → {acc : List Nat} → (preds l acc).length = acc.length + l.length
  | [], _ => rfl
  | o :: l, acc => by simp only [preds, preds_length, List.length_append, List.length_cons, List.length_nil]; omega

theorem tied_of {recs : List Rec} (hn : recs.length = ops.size) (h : tiedB (preds ops.toList []) [] (recs.map fun r => (mask r.rd, mask r.wr)) = true) : Tied ops recs := by
  intro i j ri rj hij hi hj hs
  have hlt : j < ops.size := by rw [← hn]; exact (List.getElem?_eq_some_iff.1 hj).1
  have hp : (preds ops.toList [])[j]? = some ((preds ops.toList []).getD j 0) := by
    rw [List.getD_eq_getElem?_getD, List.getElem?_eq_getElem (by rw [preds_length]; simpa using hlt)]
    rfl
  have := tiedB_spec h (by rw [preds_length]; simp [hn]) j _ (mask rj.rd) (mask rj.wr) hp (by simp [hj]) i (mask ri.rd) (mask ri.wr) (by simpa using hij) (by simp [hi])
  rcases this with ⟨h1, h2⟩ | h
  · exfalso
    obtain ⟨s, hsk, ⟨ha, hb⟩ | ⟨ha, hb⟩⟩ := hs
    · have : (mask ri.wr &&& mask rj.rd).testBit s = true := by rw [Nat.testBit_and, mask_bit ha hsk, mask_bit hb hsk]; rfl
      rw [h1] at this
      simp at this
    · have : (mask rj.wr &&& mask ri.rd).testBit s = true := by rw [Nat.testBit_and, mask_bit ha hsk, mask_bit hb hsk]; rfl
      rw [h2] at this
      simp at this
  · exact h

/-- Each edge leads back. -/
def backB : Nat → List Oper → Bool
  | _, [] => true
  | i, o :: l => o.after.all (fun e => !Region.binds .any e || decide (e.on < i)) && backB (i + 1) l

theorem backB_spec : {i : Nat} → {l : List Oper} → backB i l = true → ∀ (k : Nat) (o : Oper), l[k]? = some o → ∀ e ∈ o.after.toList, Region.binds .any e = true → e.on < i + k
  | _, [], _, k, o, hk, _, _, _ => by simp at hk
  | i, x :: l, h, k, o, hk, e, he, hbd => by
    simp only [backB, Bool.and_eq_true] at h
    cases k with
    | zero =>
      simp only [List.getElem?_cons_zero, Option.some.injEq] at hk
      subst hk
      have := Array.all_eq_true_iff_forall_mem.1 h.1 e (by simpa using he)
      rw [hbd] at this
      simpa using this
    | succ k =>
      have := backB_spec h.2 k o (by simpa using hk) e he hbd
      omega

theorem backs (h : backB 0 ops.toList = true) : ∀ (i : Nat) (o : Oper), ops[i]? = some o → ∀ e ∈ o.after.toList, Region.binds .any e = true → e.on < i := fun i o ho e he hbd => by
  have := backB_spec h i o (by simpa using ho) e he hbd
  simpa using this

/-- Each question stood at the start, and no record turns its answer. -/
def asksB (T0 : List V) (recs : List Rec) : Bool := recs.all fun r => r.1.all fun s => cond (Nat.blt s tagK) true (askOk s T0 && recs.all fun r' => r'.2.all fun u => qok s u.1 u.2)

theorem asks_of {T0 : List V} {recs : List Rec} (h : asksB T0 recs = true) : ∀ r ∈ recs, ∀ s ∈ r.1, tagK ≤ s → askOk s T0 = true ∧ ∀ r' ∈ recs, ∀ u ∈ r'.2, qok s u.1 u.2 = true := by
  intro r hr s hs hk
  unfold asksB at h
  rw [List.all_eq_true] at h
  have h1 := h r hr
  rw [List.all_eq_true] at h1
  have h2 := h1 s hs
  have hb : Nat.blt s tagK = false := by
    rw [Bool.eq_false_iff]
    intro hb
    rw [Nat.blt_eq] at hb
    exact Nat.not_lt.2 hk hb
  rw [hb, cond_false, Bool.and_eq_true, List.all_eq_true] at h2
  refine ⟨h2.1, fun r' hr' u hu => ?_⟩
  have h3 := h2.2 r' hr'
  rw [List.all_eq_true] at h3
  exact h3 u hu

end
end Go.Proofs.Ytdfcejijcnhcaaa.C.Am
