/- A part of the proof: Am20. No conditions. -/
import Derived.Test.YtdfcejijcnhcaaaCAm19
import Derived.Orders
set_option linter.unusedVariables false
set_option linter.unusedSimpArgs false
namespace Go.Proofs.Ytdfcejijcnhcaaa.C.Am

/-! ## 20. Operations in any order -/
abbrev Rec := List Nat × List (Nat × V)

def Rec.wr (r : Rec) : List Nat := r.2.map (·.1)
def Rec.rd (r : Rec) : List Nat := r.1 ++ r.wr

/-- The slots behind the records that D names, in their text's order. -/
def stD (D : Nat → Bool) : Nat → List Rec → List V → List V
  | _, [], T => T
  | i, r :: rs, T => stD D (i + 1) rs (if D i = true then setAll T r.2 else T)

theorem stD_length (D : Nat → Bool) : {i : Nat} → {rs : List Rec} → {T : List V} → (stD D i rs T).length = T.length
  | _, [], _ => rfl
  | i, r :: rs, T => by
    simp only [stD]
    rw [stD_length]
    split
    · exact length_setAll _ _
    · rfl

theorem setAll_getD_congr {ups : List (Nat × V)} {T T' : List V} {s : Nat} (hl : T.length = T'.length) (h : T.getD s .dead = T'.getD s .dead) : (setAll T ups).getD s .dead = (setAll T' ups).getD s .dead := by
  unfold setAll
  induction ups generalizing T T' with
  | nil => exact h
  | cons u l ih =>
    simp only [List.foldl_cons]
    refine ih (by simp [hl]) ?_
    rw [getD_set, getD_set, hl, h]

theorem stD_congr {D D' : Nat → Bool} {s : Nat} : {i : Nat} → {rs : List Rec} → {T T' : List V} → T.length = T'.length → T.getD s .dead = T'.getD s .dead →
    (∀ j r, rs[j]? = some r → s ∈ r.wr → D (i + j) = D' (i + j)) → (stD D i rs T).getD s .dead = (stD D' i rs T').getD s .dead
  | _, [], _, _, _, h, _ => h
  | i, r :: rs, T, T', hl, h, H => by
    simp only [stD]
    refine stD_congr ?_ ?_ (fun j r' hj hs => ?_)
    · split <;> split <;> simp [length_setAll, hl]
    · by_cases hs : s ∈ r.wr
      · have := H 0 r rfl hs
        simp only [Nat.add_zero] at this
        rw [this]
        split
        · exact setAll_getD_congr hl h
        · exact h
      · have e1 := getD_setAll r.2 T s hs
        have e2 := getD_setAll r.2 T' s hs
        split <;> split <;> simp only [e1, e2, h]
    · have := H (j + 1) r' (by simpa using hj) hs
      rwa [show i + 1 + j = i + (j + 1) by omega]

theorem stD_none {D : Nat → Bool} : {i : Nat} → {rs : List Rec} → {T : List V} → (∀ j, i ≤ j → D j = false) → stD D i rs T = T
  | _, [], _, _ => rfl
  | i, r :: rs, T, h => by
    simp only [stD]
    rw [h i (Nat.le_refl _), if_neg (by simp)]
    exact stD_none (fun j hj => h j (by omega))

theorem stD_lt_succ {n : Nat} : {i : Nat} → {rs : List Rec} → {T : List V} → {r : Rec} → rs[n]? = some r →
    stD (fun j => decide (j < i + n + 1)) i rs T = setAll (stD (fun j => decide (j < i + n)) i rs T) r.2 := by
  induction n with
  | zero =>
    intro i rs T r h
    cases rs with
    | nil => simp at h
    | cons r' rs =>
      simp only [List.getElem?_cons_zero, Option.some.injEq] at h
      subst h
      simp only [stD, Nat.add_zero]
      rw [if_pos (by simp), if_neg (by simp), stD_none (fun j hj => by simp; omega), stD_none (fun j hj => by simp; omega)]
  | succ n ih =>
    intro i rs T r h
    cases rs with
    | nil => simp at h
    | cons r' rs =>
      simp only [List.getElem?_cons_succ] at h
      simp only [stD]
      have := ih (i := i + 1) (T := if decide (i < i + (n + 1)) = true then setAll T r'.2 else T) h
      rw [show i + 1 + n = i + (n + 1) by omega] at this
      rw [if_pos (by simp; omega)]
      rw [if_pos (by simp)] at this
      rw [if_pos (by simp)]
      exact this

theorem list_ext {T T' : List V} (hl : T.length = T'.length) (h : ∀ s, T.getD s .dead = T'.getD s .dead) : T = T' := by
  apply List.ext_getElem hl
  intro i h1 h2
  have := h i
  simpa [List.getD_eq_getElem?_getD, h1, h2] using this

theorem setAll_qok {k : Nat} {ups : List (Nat × V)} (hu : ∀ u ∈ ups, qok k u.1 u.2 = true) : ∀ {T : List V}, (∀ s, s < T.length → qok k s (T.getD s .dead) = true) → ∀ s, s < T.length → qok k s ((setAll T ups).getD s .dead) = true := by
  unfold setAll
  induction ups with
  | nil => intro T h s hs; exact h s hs
  | cons u l ih =>
    intro T h s hs
    simp only [List.foldl_cons]
    refine ih (fun u' hu' => hu u' (by simp [hu'])) (fun s' hs' => ?_) s (by simpa using hs)
    rw [getD_set]
    split
    · rename_i he
      rw [he.1]
      exact hu u (by simp)
    · exact h s' (by simpa using hs')

theorem stD_qok {k : Nat} {D : Nat → Bool} : {i : Nat} → {rs : List Rec} → {T : List V} → (∀ r ∈ rs, ∀ u ∈ r.2, qok k u.1 u.2 = true) → (∀ s, s < T.length → qok k s (T.getD s .dead) = true) → ∀ s, s < T.length → qok k s ((stD D i rs T).getD s .dead) = true
  | _, [], _, _, h => h
  | i, r :: rs, T, hr, h => by
    simp only [stD]
    intro s hs
    refine stD_qok (fun r' hr' => hr r' (by simp [hr'])) (fun s' hs' => ?_) s ?_
    · split
      · exact setAll_qok (hr r (by simp)) h s' (by split at hs' <;> simpa [length_setAll] using hs')
      · exact h s' (by split at hs' <;> simpa [length_setAll] using hs')
    · split
      · rw [length_setAll]; exact hs
      · exact hs

/-- A question whose answer no record turns. -/
theorem stD_ask {k : Nat} {D : Nat → Bool} {i : Nat} {rs : List Rec} {T : List V} (hr : ∀ r ∈ rs, ∀ u ∈ r.2, qok k u.1 u.2 = true) (h : askOk k T = true) : askOk k (stD D i rs T) = true := by
  unfold askOk at h ⊢
  rw [Bool.and_eq_true] at h ⊢
  rw [stD_length]
  refine ⟨allQ_of fun s hs => ?_, h.2⟩
  rw [Nat.zero_add]
  rw [stD_length] at hs
  exact stD_qok hr (fun s' hs' => by have := allQ_get h.1 s' hs'; rwa [Nat.zero_add] at this) s hs

/-! ### the orders that may be drawn -/
section
variable {ops : Array Oper} {md : Region.Mode}

theorem binds_any {e : Edge} (h : Region.binds .any e = true) : Region.binds md e = true := by
  unfold Region.binds at *
  split <;> simp_all

/-- A list of operations in which each stands behind those that it waits for. -/
def Ordered (ops : Array Oper) : List Nat → List Nat → Prop
  | _, [] => True
  | done, i :: l => i ∉ done ∧ i < ops.size ∧ (∀ o, ops[i]? = some o → ∀ e ∈ o.after.toList, Region.binds .any e = true → e.on ∈ done) ∧ Ordered ops (i :: done) l

theorem lin_ordered : ∀ (fuel t : Nat) (listed : Array Bool) (done : List Nat), listed.size = ops.size → (∀ i, i < ops.size → (listed.getD i false = true ↔ i ∈ done)) → Ordered ops done (Region.linearise.go md ops fuel t listed []) := by
  intro fuel
  induction fuel with
  | zero => intro t listed done _ _; simp [Region.linearise.go, Ordered]
  | succ fuel ih =>
    intro t listed done hsz h
    simp only [Region.linearise.go]
    split
    · rename_i i hi
      rw [linearise_go_acc]
      simp only [List.reverse_cons, List.reverse_nil, List.nil_append, List.singleton_append]
      have hm := List.mem_of_getElem? hi
      simp only [List.mem_filter, List.mem_range, Bool.and_eq_true, Bool.not_eq_true'] at hm
      obtain ⟨hlt, hl, haf⟩ := hm
      have hl' : listed.getD i false = false := by
        have hlt' : i < listed.size := by omega
        simp only [Array.getD_eq_getD_getElem?, Array.getElem?_eq_getElem hlt', Option.getD_some] at hl ⊢
        exact hl
      refine ⟨fun hd => ?_, hlt, fun o ho e he hb => ?_, ?_⟩
      · rw [(h i hlt).2 hd] at hl'; cases hl'
      · rw [ho] at haf
        simp only [Option.map_some, Option.getD_some, Array.all_eq_true_iff_forall_mem, Bool.or_eq_true, Bool.not_eq_true'] at haf
        have := haf e (by simpa using he)
        rw [binds_any hb] at this
        simp only [Bool.true_eq_false, false_or] at this
        have hon : e.on < ops.size := by
          rcases Nat.lt_or_ge e.on ops.size with h | h
          · exact h
          · simp [Array.getD_eq_getD_getElem?, Array.getElem?_eq_none (show listed.size ≤ e.on by omega)] at this
        exact (h e.on hon).1 this
      · refine ih _ _ _ (by simp [hsz]) (fun j hj => ?_)
        simp only [Array.getD_eq_getD_getElem?, Array.getElem?_setIfInBounds, List.mem_cons]
        by_cases hji : i = j
        · subst hji
          simp [hsz, hlt]
        · have := h j hj
          simp only [Array.getD_eq_getD_getElem?] at this
          simp [hji, this, Ne.symm hji]
    · simp [Ordered]

theorem nodup_lt : ∀ (n : Nat) (l : List Nat), l.Nodup → (∀ x ∈ l, x < n) → l.length ≤ n
  | 0, l, _, h => by
    cases l with
    | nil => simp
    | cons x l => exact absurd (h x (by simp)) (by omega)
  | n + 1, l, hn, h => by
    have h1 := nodup_lt n (l.filter (· != n)) (hn.filter _) (fun x hx => by
      simp only [List.mem_filter, bne_iff_ne] at hx
      have := h x hx.1
      omega)
    by_cases hm : n ∈ l
    · have : l.length ≤ (l.filter (· != n)).length + 1 := by
        clear h h1
        induction l with
        | nil => simp
        | cons x l ih =>
          rw [List.nodup_cons] at hn
          by_cases hx : x = n
          · subst hx
            have : l.filter (· != x) = l := by
              rw [List.filter_eq_self]
              intro y hy
              simp only [bne_iff_ne]
              rintro rfl
              exact hn.1 hy
            simp [this]
          · rw [List.filter_cons_of_pos (by simpa using hx)]
            have := ih hn.2 (by rcases List.mem_cons.1 hm with h | h; exact absurd h.symm hx; exact h)
            simp only [List.length_cons]
            omega
      omega
    · have : l.filter (· != n) = l := by
        rw [List.filter_eq_self]
        intro y hy
        simp only [bne_iff_ne]
        rintro rfl
        exact hm hy
      rw [this] at h1
      omega

theorem lin_all (hb : ∀ (i : Nat) (o : Oper), ops[i]? = some o → ∀ e ∈ o.after.toList, Region.binds md e = true → e.on < i) : ∀ (fuel t : Nat) (listed : Array Bool) (done : List Nat), listed.size = ops.size → (∀ i, i < ops.size → (listed.getD i false = true ↔ i ∈ done)) →
    ops.size ≤ done.length + fuel → done.Nodup → (∀ i ∈ done, i < ops.size) → ∀ i, i < ops.size → i ∈ done ∨ i ∈ Region.linearise.go md ops fuel t listed [] := by
  intro fuel
  induction fuel with
  | zero =>
    intro t listed done hsz h hle hnd hin i hi
    left
    apply Classical.byContradiction
    intro hni
    have h1 : (i :: done).Nodup := List.nodup_cons.2 ⟨hni, hnd⟩
    have := nodup_lt ops.size (i :: done) h1 (fun j hj => by
      rcases List.mem_cons.1 hj with rfl | hj
      · exact hi
      · exact hin j hj)
    simp at this
    omega
  | succ fuel ih =>
    intro t listed done hsz h hle hnd hin i hi
    simp only [Region.linearise.go]
    split
    · rename_i j hj
      rw [linearise_go_acc]
      simp only [List.reverse_cons, List.reverse_nil, List.nil_append, List.singleton_append, List.mem_cons]
      have hm := List.mem_of_getElem? hj
      simp only [List.mem_filter, List.mem_range, Bool.and_eq_true, Bool.not_eq_true'] at hm
      obtain ⟨hlt, hl, haf⟩ := hm
      have hjd : j ∉ done := fun hd => by
        have := (h j hlt).2 hd
        have hlt' : j < listed.size := by omega
        simp only [Array.getD_eq_getD_getElem?, Array.getElem?_eq_getElem hlt', Option.getD_some] at hl this
        rw [this] at hl; cases hl
      rcases ih (t / _) (listed.setIfInBounds j true) (j :: done) (by simp [hsz]) (fun k hk => by
        simp only [Array.getD_eq_getD_getElem?, Array.getElem?_setIfInBounds, List.mem_cons]
        by_cases hji : j = k
        · subst hji
          simp [hsz, hlt]
        · have := h k hk
          simp only [Array.getD_eq_getD_getElem?] at this
          simp [hji, this, Ne.symm hji]) (by simp only [List.length_cons]; omega) (List.nodup_cons.2 ⟨hjd, hnd⟩) (fun k hk => by
          rcases List.mem_cons.1 hk with rfl | hk
          · exact hlt
          · exact hin k hk) i hi with h' | h'
      · rcases List.mem_cons.1 h' with rfl | h'
        · exact .inr (.inl rfl)
        · exact .inl h'
      · exact .inr (.inr h')
    · rename_i hno
      left
      -- nothing is ready: all is listed
      apply Classical.byContradiction
      intro hni
      -- the least unlisted
      have hex : ∃ k, k < ops.size ∧ k ∉ done ∧ ∀ k', k' < k → k' ∈ done := by
        have key : ∀ n, (∃ k, k < n ∧ k ∉ done ∧ k < ops.size) → ∃ k, k < ops.size ∧ k ∉ done ∧ ∀ k', k' < k → k' ∈ done := by
          intro n
          induction n with
          | zero => rintro ⟨k, hk, _⟩; omega
          | succ n ihn =>
            rintro ⟨k, hk, hkd, hks⟩
            by_cases hall : ∀ k', k' < k → k' ∈ done
            · exact ⟨k, hks, hkd, hall⟩
            · obtain ⟨k', hk'⟩ := Classical.not_forall.1 hall
              obtain ⟨h1, h2⟩ := Classical.not_imp.1 hk'
              exact ihn ⟨k', by omega, h2, by omega⟩
        exact key (i + 1) ⟨i, by omega, hni, hi⟩
      obtain ⟨k, hks, hkd, hall⟩ := hex
      have hready : k ∈ (List.range ops.size).filter fun i => !listed.getD i true && ((ops[i]?).map (·.after.all fun e => !Region.binds md e || listed.getD e.on false)).getD false := by
        simp only [List.mem_filter, List.mem_range, Bool.and_eq_true, Bool.not_eq_true']
        refine ⟨hks, ?_, ?_⟩
        · have hk' : k < listed.size := by omega
          have h3 : ¬ (listed.getD k false = true) := fun e => hkd ((h k hks).1 e)
          simp only [Array.getD_eq_getD_getElem?, Array.getElem?_eq_getElem hk', Option.getD_some] at h3 ⊢
          simpa using h3
        · rw [Array.getElem?_eq_getElem hks]
          simp only [Option.map_some, Option.getD_some, Array.all_eq_true_iff_forall_mem, Bool.or_eq_true]
          intro e he
          cases hbd : Region.binds md e with
          | false => exact .inl rfl
          | true =>
            have hlt := hb k _ (Array.getElem?_eq_getElem hks) e (by simpa using he) hbd
            exact .inr ((h e.on (by omega)).2 (hall _ hlt))
      have hlen : 0 < ((List.range ops.size).filter fun i => !listed.getD i true && ((ops[i]?).map (·.after.all fun e => !Region.binds md e || listed.getD e.on false)).getD false).length := List.length_pos_of_mem hready
      have := List.getElem?_eq_none_iff.1 hno
      have h4 := Nat.mod_lt t hlen
      omega

theorem sched_ordered {mixed : Bool} {t : Nat} : Ordered ops [] (Region.schedule mixed ops t) := by
  unfold Region.schedule
  split
  · exact lin_ordered _ _ _ _ (by simp) (fun i hi => by simp [Array.getD_eq_getD_getElem?, hi])
  · exact lin_ordered _ _ _ _ (by simp) (fun i hi => by simp [Array.getD_eq_getD_getElem?, hi])

theorem sched_all (hb : ∀ (i : Nat) (o : Oper), ops[i]? = some o → ∀ e ∈ o.after.toList, Region.binds .any e = true → e.on < i) {t : Nat} : ∀ i, i < ops.size → i ∈ Region.schedule true ops t := by
  intro i hi
  unfold Region.schedule
  rw [if_pos (by simp)]
  exact (lin_all hb _ _ _ [] (by simp) (fun i hi => by simp [Array.getD_eq_getD_getElem?, hi]) (by simp) (by simp) (by simp) i hi).resolve_left (by simp)

/-- Whom an operation stands behind, as a set of bits. -/
def preds : List Oper → List Nat → List Nat
  | [], acc => acc
  | o :: l, acc => preds l (acc ++ [o.after.foldl (fun s e => if Region.binds .any e = true then s ||| 2 ^ e.on ||| acc.getD e.on 0 else s) 0])

/-- D holds with an operation whatever it stands behind. -/
def Closed (ops : Array Oper) (D : Nat → Prop) : Prop := ∀ i, D i → ∀ o, ops[i]? = some o → ∀ e ∈ o.after.toList, Region.binds .any e = true → D e.on

theorem fold_bit {acc : List Nat} {k : Nat} : {es : List Edge} → {s0 : Nat} → (es.foldl (fun s e => if Region.binds .any e = true then s ||| 2 ^ e.on ||| acc.getD e.on 0 else s) s0).testBit k = true →
    s0.testBit k = true ∨ ∃ e ∈ es, Region.binds .any e = true ∧ (e.on = k ∨ (acc.getD e.on 0).testBit k = true)
  | [], _, h => .inl h
  | e :: es, s0, h => by
    simp only [List.foldl_cons] at h
    rcases fold_bit h with h | ⟨e', he', h1, h2⟩
    · split at h
      · rename_i hb
        simp only [Nat.testBit_or, Bool.or_eq_true] at h
        rcases h with (h | h) | h
        · exact .inl h
        · refine .inr ⟨e, by simp, hb, .inl ?_⟩
          rw [Nat.testBit_two_pow] at h
          simpa using h
        · exact .inr ⟨e, by simp, hb, .inr h⟩
      · exact .inl h
    · exact .inr ⟨e', by simp [he'], h1, h2⟩

theorem preds_closed {D : Nat → Prop} (hD : Closed ops D) : {l : List Oper} → {acc : List Nat} → (∀ j o, l[j]? = some o → ops[acc.length + j]? = some o) →
    (∀ j k, D j → (acc.getD j 0).testBit k = true → D k) → ∀ j k, D j → ((preds l acc).getD j 0).testBit k = true → D k
  | [], acc, _, h => h
  | o :: l, acc, ho, h => by
    simp only [preds]
    refine preds_closed hD (fun j o' hj => ?_) (fun j k hj hk => ?_)
    · have := ho (j + 1) o' (by simpa using hj)
      rw [show acc.length + (j + 1) = (acc ++ [o.after.foldl (fun s e => if Region.binds .any e = true then s ||| 2 ^ e.on ||| acc.getD e.on 0 else s) 0]).length + j by simp; omega] at this
      exact this
    · rw [List.getD_eq_getElem?_getD] at hk
      by_cases hlt : j < acc.length
      · rw [List.getElem?_append_left hlt] at hk
        exact h j k hj (by rw [List.getD_eq_getElem?_getD]; exact hk)
      · by_cases he : j = acc.length
        · subst he
          rw [List.getElem?_append_right (Nat.le_refl _)] at hk
          simp only [Nat.sub_self, List.getElem?_cons_zero, Option.getD_some] at hk
          rw [← Array.foldl_toList] at hk
          rcases fold_bit hk with hk | ⟨e, he, hb, hk⟩
          · simp at hk
          · have h0 := ho 0 o rfl
            have hon := hD _ hj o h0 e he hb
            rcases hk with rfl | hk
            · exact hon
            · exact h _ _ hon hk
        · rw [List.getElem?_eq_none (by simp; omega)] at hk
          simp at hk

end
end Go.Proofs.Ytdfcejijcnhcaaa.C.Am
