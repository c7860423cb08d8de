/- A part of the proof: Am23, Am24, Am25, Am26, Am27. No conditions. -/
import Derived.Test.YtdfcejijcnhcaaaDG3
import Derived.Laws.CopyRow
set_option linter.unusedVariables false
set_option linter.unusedSimpArgs false
namespace Go.Proofs.Ytdfcejijcnhcaaa.D.Am

/-! ## 23. Code does what its function says -/
def Ex.ex : Ex → Exit
  | .nrm => .normal
  | .ext i => .exit i
  | .ret => .ret

section
variable {P : Program} {w0 : World} {L0 : Nat → Lab} {vs : List Nat} {E : Env} {A0 : Array Value} {T T' : List V} {a : Act} {w : World}

def J (w0 : World) (L0 : Nat → Lab) (vs : List Nat) (E : Env) (A0 : Array Value) (T : List V) (a : Act) (w : World) : Prop :=
  (∃ L, Inv w0 L0 E.N vs T a w L) ∧ ∀ p, E.pins p = true → a.tmps.getD p undef = A0.getD p undef

def StepOk (P : Program) (w0 : World) (L0 : Nat → Lab) (vs : List Nat) (E : Env) : Prop :=
  P.follows .mixedOrders = true ∧ ∀ o T ups log a w L, Inv w0 L0 E.N vs T a w L → (E.step o).Runs T ups log → Step P o w0 L0 E.N vs (setAll T ups) a w

theorem put_other {dst : Option Tmp} {v : Value} {s : Nat} (h : dst ≠ some s) : (a.put dst v).tmps.getD s undef = a.tmps.getD s undef := by
  cases dst with
  | none => rfl
  | some d =>
    show (a.tmps.setIfInBounds d v).getD s undef = _
    rw [getD_setA, if_neg (fun e => h (by rw [e.1]))]

theorem wp_pin {o : Oper} {K : Act → World → Prop} {Q : Exit → Act → World → Prop} (h : o.wp P a w K Q) :
    o.wp P a w (fun a' w' => K a' w' ∧ ∀ s, o.dst ≠ some s → a'.tmps.getD s undef = a.tmps.getD s undef) Q := by
  unfold Oper.wp at *
  generalize (execOp a.eval o).run P w = r at *
  cases r with
  | ok n w' =>
    cases n <;> simp only [Oper.upon] at h ⊢
    case value v => exact ⟨h, fun s hs => put_other hs⟩
    case skip => exact ⟨h, fun s hs => put_other hs⟩
    case defer d => exact ⟨h, fun s hs => put_other (a := { a with defers := d :: a.defers }) hs⟩
    case enter f args =>
      refine Calls.mono h (fun e w'' he => ?_)
      cases e with
      | returned v => exact ⟨he, fun s hs => put_other hs⟩
      | panicked c => exact he
      | outgrown => exact he
    case row => exact Rows.mono h (fun v w'' he => ⟨he, fun s hs => put_other hs⟩)
    all_goals exact h
  | halt x w' => cases x <;> simp only [Oper.upon] at h ⊢ <;> exact h

/-- An operation that is left out. -/
def SkipRec (E : Env) (o : Oper) (T : List V) (r : Rec) : Prop := r.2 = o.dst.toList.map (fun d => (d, V.tup [])) ∧ ∀ d, o.dst = some d → (T.getD d .dead).idle = true ∧ d < E.N ∧ d ∈ r.1

/-- An operation of a region does what its record says. -/
def DoesAt (E : Env) (ops : Array Oper) (o : Oper) (T : List V) (r : Rec) : Prop :=
  pinOk E o = true ∧
  ((o.guard = none ∧ ∃ log, (E.step o).Runs T r.2 log ∧ ∀ s ∈ log, s ∈ r.1) ∨
   (∃ j want g l0 n0 b, o.guard = some (j, want) ∧ (ops[j]?).bind (·.dst) = some g ∧ T.getD g .dead = .d l0 n0 .bool b ∧ g ∈ r.1 ∧
    ((b = want ∧ ∃ log, (E.step o).Runs T r.2 log ∧ ∀ s ∈ log, s ∈ r.1) ∨ (b ≠ want ∧ SkipRec E o T r))) ∨
   ∃ j want g, o.guard = some (j, want) ∧ (ops[j]?).bind (·.dst) = some g ∧ T.getD g .dead = .tup [] ∧ g ∈ r.1 ∧ SkipRec E o T r)

theorem DoesAt.agree {ops : Array Oper} {o : Oper} {r : Rec} (hl : T.length ≤ tagK) (hl' : T'.length = T.length) (h : DoesAt E ops o T r) (hT : ∀ s ∈ r.1, Agr T T' s) : DoesAt E ops o T' r := by
  have hT1 : ∀ s ∈ r.1, T'.getD s .dead = T.getD s .dead := fun s hs => by
    by_cases hk : s < tagK
    · exact (hT s hs).1 hk
    · rw [getD_out (by omega), getD_out (by omega)]
  refine ⟨h.1, ?_⟩
  have hskip : SkipRec E o T r → SkipRec E o T' r := fun ⟨h6, h7⟩ => ⟨h6, fun d hd => by
    obtain ⟨h8, h9, h10⟩ := h7 d hd
    exact ⟨by rw [hT1 d h10]; exact h8, h9, h10⟩⟩
  rcases h.2 with ⟨h1, log, h2, h3⟩ | ⟨j, want, g, l0, n0, b, h1, h2, h3, h4, h5⟩ | ⟨j, want, g, h1, h2, h3, h4, h5⟩
  · exact .inl ⟨h1, log, M.runs_agree hl hl' h2 (fun s hs => hT s (h3 s hs)), h3⟩
  · refine .inr (.inl ⟨j, want, g, l0, n0, b, h1, h2, (hT1 g h4).trans h3, h4, ?_⟩)
    rcases h5 with ⟨h5, log, h6, h7⟩ | ⟨h5, h6⟩
    · exact .inl ⟨h5, log, M.runs_agree hl hl' h6 (fun s hs => hT s (h7 s hs)), h7⟩
    · exact .inr ⟨h5, hskip h6⟩
  · exact .inr (.inr ⟨j, want, g, h1, h2, (hT1 g h4).trans h3, h4, hskip h5⟩)

theorem Inv.yields {L : Nat → Lab} (hI : Inv w0 L0 E.N vs T a w L) {ops : Array Oper} {j g : Nat} {l0 : Option Nat} {n0 : Nat} {b : Bool} (h2 : (ops[j]?).bind (·.dst) = some g) (h3 : T.getD g .dead = .d l0 n0 .bool b) :
    yielded ops a.tmps j = some b := by
  have hs := hI.slots g
  rw [h3] at hs
  have hb := hs.bool
  unfold yielded
  rw [h2]
  have hlt : g < a.tmps.size := by
    rcases Nat.lt_or_ge g a.tmps.size with h | h
    · exact h
    · exfalso
      rw [hI.size] at h
      rw [getD_out (by rw [hI.len]; exact h)] at h3
      cases h3
  simp only [Option.bind_some, Array.getElem?_eq_getElem hlt]
  simp only [Array.getD_eq_getD_getElem?, Array.getElem?_eq_getElem hlt, Option.getD_some] at hb
  rw [hb]

theorem Inv.noYield {L : Nat → Lab} (hI : Inv w0 L0 E.N vs T a w L) {ops : Array Oper} {j g : Nat} (h2 : (ops[j]?).bind (·.dst) = some g) (h3 : T.getD g .dead = .tup []) : yielded ops a.tmps j = none := by
  have hs := hI.slots g
  rw [h3] at hs
  obtain ⟨us, hu, _⟩ := hs
  unfold yielded
  rw [h2]
  simp only [Option.bind_some]
  rw [Array.getD_eq_getD_getElem?] at hu
  cases hg : a.tmps[g]? with
  | none => rfl
  | some c =>
    rw [hg] at hu
    simp only [Option.getD_some] at hu
    rw [hu]

theorem Inv.skip {L : Nat → Lab} (hI : Inv w0 L0 E.N vs T a w L) {dst : Option Nat} (h : ∀ d, dst = some d → (T.getD d .dead).idle = true ∧ d < E.N) :
    Inv w0 L0 E.N vs (setAll T (dst.toList.map fun d => (d, V.tup []))) (a.put dst undef) w L := by
  cases dst with
  | none => exact hI
  | some d =>
    obtain ⟨h1, h2⟩ := h d rfl
    exact Inv.set hI h2 h1 (Grows.refl hI d) (.tup []) undef (fun k q hk h => by rw [hI.free k hk] at h; cases h) (fun r hr => by simp [V.on, V.root] at hr) ⟨#[], rfl, rfl⟩

theorem pinOk_ne {o : Oper} (h : pinOk E o = true) {p : Nat} (hp : E.pins p = true) : o.dst ≠ some p := by
  intro e
  unfold pinOk at h
  rw [e] at h
  simp [hp] at h

theorem does_act {ops : Array Oper} {Q : Exit → Act → World → Prop} (hst : StepOk P w0 L0 vs E) {o : Oper} {r : Rec} (h : DoesAt E ops o T r) : Act1 P ops (J w0 L0 vs E A0) Q o T (setAll T r.2) := by
  intro a w hJ K hK
  obtain ⟨⟨L, hI⟩, hpin⟩ := hJ
  have hstep : ∀ log, (E.step o).Runs T r.2 log → o.wp P a w K Q := by
    intro log hr
    have h1 := hst.2 o T r.2 log a w L hI hr
    have h2 := h1 (fun a' w' => ∃ L', Inv w0 L0 E.N vs (setAll T r.2) a' w' L') Q (fun a' w' L' h => ⟨L', h⟩)
    exact Oper.wp_mono (fun a' w' hh => hK a' w' ⟨hh.1, fun p hp => (hh.2 p (pinOk_ne h.1 hp)).trans (hpin p hp)⟩) (wp_pin h2)
  have hskip : SkipRec E o T r → K (a.put o.dst undef) w := fun ⟨h6, h7⟩ => by
    rw [h6] at hK
    exact hK _ _ ⟨⟨L, hI.skip (fun d hd => ⟨(h7 d hd).1, (h7 d hd).2.1⟩)⟩, fun p hp => (put_other (pinOk_ne h.1 hp)).trans (hpin p hp)⟩
  rcases h.2 with ⟨h1, log, h2, h3⟩ | ⟨j, want, g, l0, n0, b, h1, h2, h3, h4, h5⟩ | ⟨j, want, g, h1, h2, h3, h4, h5⟩
  · rw [if_pos (by simp [Region.wanted, h1])]
    exact hstep log h2
  · have hy := hI.yields h2 h3
    have hw : Region.wanted o (yielded ops a.tmps) = (b == want) := by
      simp [Region.wanted, h1, hy]
    rw [hw]
    rcases h5 with ⟨rfl, log, h6, h7⟩ | ⟨h5, h6⟩
    · rw [if_pos (by simp)]
      exact hstep log h6
    · rw [if_neg (by simpa using h5)]
      exact hskip h6
  · have hy := hI.noYield h2 h3
    rw [if_neg (by simp [Region.wanted, h1, hy])]
    exact hskip h5

/-- The records of a region, one behind the other. -/
def Chain (E : Env) (ops : Array Oper) : List Oper → List V → List Rec → List V → Prop
  | [], T, [], T' => T = T'
  | o :: l, T, r :: rs, T' => DoesAt E ops o T r ∧ Chain E ops l (setAll T r.2) rs T'
  | _, _, _, _ => False

theorem set_same {T : List V} {g : Nat} {v : V} (h : T.getD g .dead = v) (hv : v ≠ .dead) : T.set g v = T := by
  refine list_ext (by simp) (fun s => ?_)
  rw [getD_set]
  split
  · rename_i hs
    rw [hs.1, h]
  · rfl

theorem skipUps_rec {o : Oper} {u : List Nat × List (Nat × V)} {g : Nat} (h1 : skipUps E o T = some u) : SkipRec E o T (g :: u.1, u.2) := by
  unfold skipUps at h1
  split at h1
  · rename_i hd
    injection h1 with h1
    subst h1
    exact ⟨by simp [hd], fun d hd' => by rw [hd] at hd'; cases hd'⟩
  · rename_i d hd
    cases hc : ((T.getD d .dead).idle && decide (d < E.N)) with
    | false => rw [hc] at h1; cases h1
    | true =>
      rw [hc] at h1
      simp only [cond_true, Option.some.injEq] at h1
      subst h1
      simp only [Bool.and_eq_true, decide_eq_true_eq] at hc
      refine ⟨by simp [hd], fun d' hd' => ?_⟩
      rw [hd] at hd'
      injection hd' with hd'
      subst hd'
      exact ⟨hc.1, hc.2, by simp⟩

theorem opsK_chain {R : Type} {ops : Array Oper} {draw : Bool} {K : List V → Option R} {T0 : List V} {r : R} : {l : List Oper} → {T : List V} → {recs : List Rec} → opsK E ops draw K T0 l T recs = some r →
    ∃ rs T', Chain E ops l T rs T' ∧ K T' = some r ∧ rs.length = l.length ∧ (draw = true → backB 0 ops.toList = true ∧ tiedB (preds ops.toList []) [] ((recs ++ rs).map fun r => (mask r.rd, mask r.wr)) = true ∧ asksB T0 (recs ++ rs) = true ∧ E.N ≤ tagK)
  | [], T, recs, h => by
    simp only [opsK] at h
    cases hc : (!draw || (backB 0 ops.toList && tiedB (preds ops.toList []) [] (recs.map fun r => (mask r.rd, mask r.wr)) && asksB T0 recs && decide (E.N ≤ tagK))) with
    | false => rw [hc] at h; cases h
    | true =>
      rw [hc] at h
      refine ⟨[], T, rfl, h, rfl, fun hd => ?_⟩
      subst hd
      simp only [Bool.not_true, Bool.false_or, Bool.and_eq_true, decide_eq_true_eq] at hc
      rw [List.append_nil]
      exact ⟨hc.1.1.1, hc.1.1.2, hc.1.2, hc.2⟩
  | o :: l, T, recs, h => by
    simp only [opsK] at h
    cases hp : pinOk E o with
    | false => rw [hp] at h; cases h
    | true =>
      rw [hp] at h
      simp only [cond_true] at h
      split at h
      · rename_i hg
        obtain ⟨ups, log, h1, h2⟩ := M.runK_some h
        obtain ⟨rs, T', h3, h4, h5, h6⟩ := opsK_chain h2
        exact ⟨(log.reverse ++ [], ups) :: rs, T', ⟨⟨hp, .inl ⟨hg, log, h1, by simp⟩⟩, h3⟩, h4, by simp [h5], by simpa using h6⟩
      · rename_i j want hg
        split at h
        · cases h
        · rename_i g hdst
          split at h
          · rename_i l0 n0 b hT
            have key : ∀ b', T.getD g .dead = .d l0 n0 .bool b' → T.set g (.d l0 n0 .bool b') = T := fun b' hT => set_same hT (by simp)
            have hrun : ∀ b', T.getD g .dead = .d l0 n0 .bool b' → b' = want → ((E.step o).runK (T.set g (.d l0 n0 .bool b')) [g] fun log ups => opsK E ops draw K T0 l (setAll (T.set g (.d l0 n0 .bool b')) ups) (recs ++ [(log, ups)])) = some r →
                ∃ rs T', Chain E ops (o :: l) T rs T' ∧ K T' = some r ∧ rs.length = (o :: l).length ∧ (draw = true → backB 0 ops.toList = true ∧ tiedB (preds ops.toList []) [] ((recs ++ rs).map fun r => (mask r.rd, mask r.wr)) = true ∧ asksB T0 (recs ++ rs) = true ∧ E.N ≤ tagK) := by
              intro b' hT hbw h
              rw [key b' hT] at h
              obtain ⟨ups, log, h1, h2⟩ := M.runK_some h
              obtain ⟨rs, T', h3, h4, h5, h6⟩ := opsK_chain h2
              refine ⟨(log.reverse ++ [g], ups) :: rs, T', ⟨⟨hp, .inr (.inl ⟨j, want, g, l0, n0, b', hg, hdst, hT, by simp, .inl ⟨hbw, log, h1, fun s hs => by simp [hs]⟩⟩)⟩, h3⟩, h4, by simp [h5], by simpa using h6⟩
            have hskip : ∀ b', T.getD g .dead = .d l0 n0 .bool b' → b' ≠ want → ((skipUps E o (T.set g (.d l0 n0 .bool b'))).bind fun u => opsK E ops draw K T0 l (setAll (T.set g (.d l0 n0 .bool b')) u.2) (recs ++ [(g :: u.1, u.2)])) = some r →
                ∃ rs T', Chain E ops (o :: l) T rs T' ∧ K T' = some r ∧ rs.length = (o :: l).length ∧ (draw = true → backB 0 ops.toList = true ∧ tiedB (preds ops.toList []) [] ((recs ++ rs).map fun r => (mask r.rd, mask r.wr)) = true ∧ asksB T0 (recs ++ rs) = true ∧ E.N ≤ tagK) := by
              intro b' hT hbw h
              rw [key b' hT] at h
              obtain ⟨u, h1, h2⟩ := Option.bind_eq_some_iff.1 h
              obtain ⟨rs, T', h3, h4, h5, h6⟩ := opsK_chain h2
              exact ⟨(g :: u.1, u.2) :: rs, T', ⟨⟨hp, .inr (.inl ⟨j, want, g, l0, n0, b', hg, hdst, hT, by simp, .inr ⟨hbw, skipUps_rec h1⟩⟩)⟩, h3⟩, h4, by simp [h5], by simpa using h6⟩
            cases b with
            | true =>
              simp only [cond_true] at h
              cases want with
              | true => exact hrun true hT rfl h
              | false => exact hskip true hT (by simp) h
            | false =>
              simp only [cond_false] at h
              cases want with
              | true => exact hskip false hT (by simp) h
              | false => exact hrun false hT rfl h
          · rename_i hT
            obtain ⟨u, h1, h2⟩ := Option.bind_eq_some_iff.1 h
            obtain ⟨rs, T', h3, h4, h5, h6⟩ := opsK_chain h2
            exact ⟨(g :: u.1, u.2) :: rs, T', ⟨⟨hp, .inr (.inr ⟨j, want, g, hg, hdst, hT, by simp, skipUps_rec h1⟩)⟩, h3⟩, h4, by simp [h5], by simpa using h6⟩
          · cases h

theorem chain_stD {ops : Array Oper} : {l : List Oper} → {T : List V} → {rs : List Rec} → {T' : List V} → {k : Nat} → Chain E ops l T rs T' →
    T' = stD (fun _ => true) k rs T ∧ ∀ (i : Nat) (o : Oper) (r : Rec), l[i]? = some o → rs[i]? = some r → DoesAt E ops o (stD (fun j => decide (j < k + i)) k rs T) r
  | [], T, [], T', k, h => ⟨h.symm, fun i o r hi _ => by simp at hi⟩
  | o :: l, T, r :: rs, T', k, ⟨h1, h2⟩ => by
    obtain ⟨h3, h4⟩ := chain_stD (k := k + 1) h2
    refine ⟨by simpa [stD] using h3, fun i o' r' hi hr => ?_⟩
    cases i with
    | zero =>
      simp only [List.getElem?_cons_zero, Option.some.injEq] at hi hr
      subst hi hr
      rw [stD_none (fun j hj => by simp; omega)]
      exact h1
    | succ i =>
      have := h4 i o' r' (by simpa using hi) (by simpa using hr)
      simp only [stD]
      rw [if_pos (by simp)]
      rwa [show k + (i + 1) = k + 1 + i by omega]
  | [], _, _ :: _, _, _, h => h.elim
  | _ :: _, _, [], _, _, h => h.elim

theorem J.len (h : J w0 L0 vs E A0 T a w) : T.length = E.N := by obtain ⟨⟨L, hI⟩, _⟩ := h; exact hI.len

theorem chain_wp {ops : Array Oper} {Q : Exit → Act → World → Prop} (hst : StepOk P w0 L0 vs E) : {l : List Oper} → {T : List V} → {rs : List Rec} → {i : Nat} → (∀ k o, l[k]? = some o → ops[i + k]? = some o) → Chain E ops l T rs T' →
    (∀ a' w', J w0 L0 vs E A0 T' a' w' → Q .normal a' w') → ∀ a w, J w0 L0 vs E A0 T a w → wpOps P ops Q (List.range' i l.length) a w
  | [], T, [], i, _, h, hQ, a, w, hJ => by
    obtain rfl : T = T' := h
    simp only [List.length_nil, List.range'_zero, wpOps]
    exact hQ a w hJ
  | o :: l, T, r :: rs, i, ho, ⟨h1, h2⟩, hQ, a, w, hJ => by
    simp only [List.length_cons, List.range'_succ]
    refine wpOps_step (by simpa using ho 0 o rfl) ?_
    refine does_act hst h1 a w hJ _ (fun a' w' hJ' => chain_wp hst (fun k o hk => ?_) h2 hQ a' w' hJ')
    have := ho (k + 1) o (by simpa using hk)
    rwa [show i + (k + 1) = i + 1 + k by omega] at this
  | [], _, _ :: _, _, _, h, _, _, _, _ => h.elim
  | _ :: _, _, [], _, _, h, _, _, _, _ => h.elim

theorem J.drawn (h : J w0 L0 vs E A0 T a w) (n : Nat) : J w0 L0 vs E A0 T a { w with drawn := n } := by
  obtain ⟨⟨L, hI⟩, hp⟩ := h
  refine ⟨⟨L, hI.size, hI.len, hI.dfr, ⟨hI.fr.os, hI.fr.tape, hI.fr.output, hI.fr.size, hI.fr.keep⟩, hI.free, hI.inj, hI.owner, hI.roots, fun s => ?_⟩, hp⟩
  exact SRep.keep (w := w) (w' := { w with drawn := n }) (L' := L) (T' := T) (tm' := a.tmps) (fun k _ => ⟨rfl, rfl⟩) (fun _ _ _ => ⟨rfl, rfl⟩) (hI.slots s)

theorem region_sound {R : Type} {ops : Array Oper} {draw : Bool} {id : Nat} {K : List V → Option R} {r : R} (hst : StepOk P w0 L0 vs E) (h : opsK E ops draw K T ops.toList T [] = some r) (hJ : J w0 L0 vs E A0 T a w) :
    (Code.region id ops draw).wp P (fun e a' w' => e = .normal ∧ ∃ T', K T' = some r ∧ J w0 L0 vs E A0 T' a' w') a w := by
  obtain ⟨rs, T', hch, hK, hlen, hdraw⟩ := opsK_chain h
  have hsz : rs.length = ops.size := by simpa using hlen
  cases draw with
  | false =>
    refine wp_region ?_
    have := chain_wp (A0 := A0) (Q := fun e a' w' => e = .normal ∧ ∃ T', K T' = some r ∧ J w0 L0 vs E A0 T' a' w') hst (i := 0) (fun k o hk => by simpa using hk) hch (fun a' w' hJ' => ⟨rfl, T', hK, hJ'⟩) a w hJ
    rw [List.range_eq_range']
    simpa using this
  | true =>
    obtain ⟨hb, ht, hq, hN⟩ := hdraw rfl
    rw [List.nil_append] at hq
    obtain ⟨h1, h2⟩ := chain_stD (k := 0) hch
    refine wp_region_draw fun t => ?_
    rw [hst.1]
    refine region_any (J := J w0 L0 vs E A0) (N := E.N) (recs := rs) (T0 := T) hJ.len hN hsz (asks_of hq) ?_ (tied_of hsz (by simpa using ht)) ?_ _ [] sched_ordered (fun i hi => by simp at hi) (fun i hi => .inr (sched_all (backs hb) i hi)) a _ ?_
    · intro i o rc ho hr T1 hT1 hag hask
      have := h2 i o rc (by simpa using ho) hr
      simp only [Nat.zero_add] at this
      exact does_act hst (this.agree (by rw [stD_length, hJ.len]; exact hN) (by rw [stD_length, hJ.len, hT1]) (fun s hs => ⟨fun hk => hag s (List.mem_append_left _ hs) hk, fun hk _ => hask s hs hk⟩))
    · intro a' w' hJ'
      rw [← h1] at hJ'
      exact ⟨rfl, T', hK, hJ'⟩
    · rw [stD_none (fun j _ => by simp)]
      exact hJ.drawn _

theorem keepL_get {m : Nat} : {i : Nat} → {l : List V} → (s : Nat) → (keepL m i l).getD s .dead = if (m.testBit (i + s)) = true then l.getD s .dead else .dead
  | i, [], s => by simp [keepL]
  | i, v :: l, 0 => by
    simp only [keepL, List.getD_cons_zero, Nat.add_zero]
    cases m.testBit i <;> rfl
  | i, v :: l, s + 1 => by
    simp only [keepL, List.getD_cons_succ]
    rw [keepL_get, show i + 1 + s = i + (s + 1) by omega]

theorem keepL_length {m : Nat} : {i : Nat} → {l : List V} → (keepL m i l).length = l.length
  | _, [] => rfl
  | i, v :: l => by simp [keepL, keepL_length]

theorem keepOk_spec {m : Nat} {T : List V} : {i : Nat} → {l : List V} → keepOk m T i l = true → ∀ s r, m.testBit (i + s) = true → (l.getD s .dead).root = some r → m.testBit r = true ∨ (T.getD r .dead).owns = false
  | _, [], _, s, r, _, hr => by simp [V.root] at hr
  | i, v :: l, h, s, r, hs, hr => by
    simp only [keepOk, Bool.and_eq_true, Bool.or_eq_true, Bool.not_eq_true'] at h
    cases s with
    | zero =>
      rw [List.getD_cons_zero] at hr
      rw [hr] at h
      have := h.1.resolve_left (by rw [show i = i + 0 from rfl, hs]; simp)
      simpa using this
    | succ s =>
      refine keepOk_spec h.2 s r (by rwa [show i + 1 + s = i + (s + 1) by omega]) (by simpa using hr)

theorem keep_sound {R : Type} {ks : Option Nat} {K : List V → Option R} {r : R} (h : keepK ks T K = some r) (hJ : J w0 L0 vs E A0 T a w) : ∃ T', K T' = some r ∧ J w0 L0 vs E A0 T' a w := by
  unfold keepK at h
  split at h
  · exact ⟨T, h, hJ⟩
  · rename_i m
    cases hc : keepOk m T 0 T with
    | false => rw [hc] at h; cases h
    | true =>
      rw [hc] at h
      obtain ⟨⟨L, hI⟩, hp⟩ := hJ
      refine ⟨_, h, ⟨_, Inv.kill hI (fun s => !m.testBit s) (by rw [keepL_length, hI.len]) (fun s => ?_) (fun s r hs ho1 ho2 => ?_)⟩, hp⟩
      · rw [keepL_get, Nat.zero_add]
        cases m.testBit s <;> rfl
      · have := keepOk_spec hc s r (by simpa using hs) (by simpa [V.on] using ho1)
        rcases this with h | h
        · simp [h]
        · rw [h] at ho2; cases ho2

/-- The result of a part: where it goes on, and with which slots. -/
def Post {R : Type} (w0 : World) (L0 : Nat → Lab) (vs : List Nat) (E : Env) (A0 : Array Value) (k : Ex → List V → Option R) (r : R) : Exit → Act → World → Prop :=
  fun e a' w' => ∃ ex T', e = ex.ex ∧ k ex T' = some r ∧ J w0 L0 vs E A0 T' a' w'

theorem denK_sound {R : Type} (hst : StepOk P w0 L0 vs E) {r : R} : {c : Code} → {k : Ex → List V → Option R} → {T : List V} → denK E c k T = some r → ∀ a w, J w0 L0 vs E A0 T a w → c.wp P (Post w0 L0 vs E A0 k r) a w
  | .skip, k, T, h, a, w, hJ => wp_skip ⟨.nrm, T, rfl, h, hJ⟩
  | .label _, k, T, h, a, w, hJ => wp_label ⟨.nrm, T, rfl, h, hJ⟩
  | .exit id, k, T, h, a, w, hJ => wp_exit ⟨.ext id, T, rfl, h, hJ⟩
  | .ret, k, T, h, a, w, hJ => wp_ret ⟨.ret, T, rfl, h, hJ⟩
  | .region id ops draw, k, T, h, a, w, hJ => by
    simp only [denK] at h
    obtain ⟨T1, h1, hJ1⟩ := keep_sound h hJ
    refine wp_mono (region_sound hst h1 hJ1) ?_
    rintro e a' w' ⟨rfl, T', hk, hJ'⟩
    exact ⟨.nrm, T', rfl, hk, hJ'⟩
  | .seq x y, k, T, h, a, w, hJ => by
    simp only [denK] at h
    refine wp_seq (wp_mono (denK_sound hst h a w hJ) ?_)
    rintro e a' w' ⟨ex, T', rfl, hk, hJ'⟩
    cases ex with
    | nrm => exact denK_sound hst hk a' w' hJ'
    | ext i => exact ⟨.ext i, T', rfl, hk, hJ'⟩
    | ret => exact ⟨.ret, T', rfl, hk, hJ'⟩
  | .cond c x y, k, T, h, a, w, hJ => by
    cases c with
    | tmp t =>
      simp only [denK] at h
      split at h
      · rename_i l0 n0 b hT
        have hb : a.eval (.tmp t) = .bool b := by
          obtain ⟨⟨L, hI⟩, _⟩ := hJ
          have hs := hI.slots t
          rw [hT] at hs
          exact hs.bool
        have hset : ∀ b', T.getD t .dead = .d l0 n0 .bool b' → T.set t (.d l0 n0 .bool b') = T := fun b' hT => set_same hT (by simp)
        refine wp_cond hb ?_
        cases b with
        | true =>
          simp only [cond_true] at h
          rw [hset true hT] at h
          exact denK_sound hst h a w hJ
        | false =>
          simp only [cond_false] at h
          rw [hset false hT] at h
          exact denK_sound hst h a w hJ
      · cases h
    | const _ => simp [denK] at h
    | func _ => simp [denK] at h
    | global _ => simp [denK] at h
  | .block id c, k, T, h, a, w, hJ => by
    simp only [denK] at h
    refine wp_block (wp_mono (denK_sound hst h a w hJ) ?_)
    rintro e a' w' ⟨ex, T', rfl, hk, hJ'⟩
    cases ex with
    | nrm => exact ⟨.nrm, T', rfl, hk, hJ'⟩
    | ext i =>
      dsimp only at hk
      simp only [Ex.ex, Exit.inBlock]
      by_cases hi : i = id
      · subst hi
        rw [if_pos rfl]
        simp only [beq_self_eq_true, cond_true] at hk
        exact ⟨.nrm, T', rfl, hk, hJ'⟩
      · rw [if_neg hi]
        have : (i == id) = false := by simpa using hi
        rw [this] at hk
        exact ⟨.ext i, T', rfl, hk, hJ'⟩
    | ret => exact ⟨.ret, T', rfl, hk, hJ'⟩
  | .loop c, k, T, h, a, w, hJ => by
    simp only [denK] at h
    obtain ⟨T1, h1, hJ1⟩ := keep_sound h hJ
    let B : (List V → Option R) → List V → Option R := fun self T => denK E c (fun e T' => match e with
        | .nrm => keepK (E.keep (loopKey c)) T' self
        | .ext i => k (.ext i) T'
        | .ret => k .ret T') T
    let I : Nat → Act → World → Prop := fun n a w => ∃ T, iterO B n T = some r ∧ J w0 L0 vs E A0 T a w
    have hex : ∃ n, I n a w := by
      obtain ⟨n, hn⟩ := (fixO_some (turn_tail k)).1 h1
      exact ⟨n, T1, hn, hJ1⟩
    have hmin : ∀ a w, (∃ n, I n a w) → ∃ n, I n a w ∧ ∀ m, I m a w → n ≤ m := by
      intro a w ⟨n, hn⟩
      induction n using Nat.strongRecOn with
      | _ n ih =>
        by_cases hm : ∃ m, m < n ∧ I m a w
        · obtain ⟨m, hm, hI⟩ := hm
          exact ih m hm hI
        · refine ⟨n, hn, fun m hI => ?_⟩
          rcases Nat.lt_or_ge m n with h | h
          · exact absurd ⟨m, h, hI⟩ hm
          · exact h
    let μ : Act → World → Nat := fun a w => open Classical in if h : ∃ n, I n a w then Classical.choose (hmin a w h) else 0
    refine wp_loop (fun a w => ∃ n, I n a w) μ hex (fun a w hI => ?_)
    have hμ : μ a w = Classical.choose (hmin a w hI) := dif_pos hI
    obtain ⟨⟨T2, hit, hJ2⟩, hle⟩ := Classical.choose_spec (hmin a w hI)
    rw [← hμ] at hit hle
    generalize hn : μ a w = n at hit hle
    cases n with
    | zero => cases hit
    | succ n =>
      simp only [iterO, B] at hit
      refine wp_mono (denK_sound hst hit a w hJ2) ?_
      rintro e a' w' ⟨ex, T', rfl, hk, hJ'⟩
      cases ex with
      | nrm =>
        dsimp only at hk
        obtain ⟨T3, h3, hJ3⟩ := keep_sound hk hJ'
        have hI' : ∃ n, I n a' w' := ⟨n, T3, h3, hJ3⟩
        refine ⟨hI', ?_⟩
        have hμ' : μ a' w' = Classical.choose (hmin a' w' hI') := dif_pos hI'
        rw [hμ']
        have := (Classical.choose_spec (hmin a' w' hI')).2 n ⟨T3, h3, hJ3⟩
        omega
      | ext i => exact ⟨.ext i, T', rfl, hk, hJ'⟩
      | ret => exact ⟨.ret, T', rfl, hk, hJ'⟩
  | .rangeFunc .., k, T, h, _, _, _ => by simp [denK] at h
  | .scope _, k, T, h, _, _, _ => by simp [denK] at h
  | .goto _, k, T, h, _, _, _ => by simp [denK] at h
  | .refuse _, k, T, h, _, _, _ => by simp [denK] at h

end
end Go.Proofs.Ytdfcejijcnhcaaa.D.Am

set_option linter.unusedVariables false
set_option linter.unusedSimpArgs false
namespace Go.Proofs.Ytdfcejijcnhcaaa.D.Am

/-! ## 24. A store into a place -/
def modRoot (p : List St) : V → (t' : Ty) → t'.den → M V
  | .box l n t x, t', y => (modP p t x t' y).bind fun x2 => .ret (.box l n t x2)
  | .d l n t x, t', y => match p with
    | .idx sz i :: p' => (modP (.idx sz i :: p') t x t' y).bind fun x2 => .ret (.d l n t x2)
    | _ => .fail
  | _, _, _ => .fail

/-- The cells [o, o + sz) of row q, and what lies below. -/
def underB (q : List Nat) (o sz : Nat) (z : List Nat) : Bool := match cut q z with
  | some (y :: _) => decide (o ≤ y) && decide (y < o + sz)
  | _ => false

/-- Labels at a store of slot src's data (down to depth m) into a place of slot r. -/
def stF (r : Nat) (q : List Nat) (o sz m : Nat) (src : Option Nat) : Nat → List Nat → Lab := fun s z =>
  if s = r then (if src.isSome && underB q o sz z then .other else .own r z)
  else if src = some s then match z with
    | y :: rest => if y < sz then (if rest.length < m then .own r (q ++ (o + y) :: rest) else .stable) else .other
    | [] => .other
  else .own s z

/-- What may hang on a root that is written. -/
def keepable (root : V) (src : Option Nat) : V → Bool
  | .ptr _ p _ => src.isNone || (shallow p && !root.isD)
  | .view _ [] _ => root.isD
  | _ => false

section
variable {P : Program} {C : Ctx} {w w' w0 : World} {S S' : Nat → Prop} {L L' L0 : Nat → Lab} {s N : Nat} {vs : List Nat} {T T' : List V} {tm tm' : Array Value} {a : Act}

theorem shallow_node : {p : List St} → {q : List Nat} → {o : Nat} → shallow p = true → (node q o p).1 = q
  | [], _, _, _ => rfl
  | .fld _ _ :: p, _, _, h => shallow_node (p := p) h
  | .idx _ _ :: _, _, _, h => by cases h

theorem node_len : {p : List St} → {q : List Nat} → {o : Nat} → q.length ≤ (node q o p).1.length
  | [], _, _ => Nat.le_refl _
  | .fld _ _ :: p, _, _ => node_len (p := p)
  | .idx _ _ :: p, q, o => Nat.le_trans (by simp) (node_len (p := p) (q := q ++ [o]))

theorem deep_node : {p : List St} → {o : Nat} → shallow p = false → (node [] o p).1 ≠ []
  | .fld _ _ :: p, _, h => deep_node (p := p) h
  | .idx sz i :: p, o, _ => fun h => by
    have h1 := node_len (p := p) (q := [o]) (o := i.toNat * sz)
    change (node [o] (i.toNat * sz) p).1 = [] at h
    rw [h] at h1
    simp at h1

theorem underB_spec {q : List Nat} {o sz : Nat} {z : List Nat} : underB q o sz z = true ↔ Under q o sz z := by
  unfold underB
  constructor
  · intro h
    split at h
    · rename_i y rest hc
      simp only [Bool.and_eq_true, decide_eq_true_eq] at h
      refine ⟨y - o, rest, by omega, ?_⟩
      rw [cut_some hc]
      congr 2
      omega
    · cases h
  · rintro ⟨d, rest, hd, rfl⟩
    rw [cut_append]
    simp
    omega

theorem stF_key {r : Nat} {q : List Nat} {o sz m : Nat} {src : Option Nat} (hsr : src ≠ some r) {s s' : Nat} {z z' : List Nat} (h : stF r q o sz m src s z = .own s' z') :
    (s = r ∧ s' = r ∧ z' = z ∧ (src.isSome = true → ¬ Under q o sz z)) ∨ (src = some s ∧ s' = r ∧ ∃ y rest, z = y :: rest ∧ y < sz ∧ z' = q ++ (o + y) :: rest) ∨ (s ≠ r ∧ src ≠ some s ∧ s' = s ∧ z' = z) := by
  unfold stF at h
  split at h
  · rename_i hs
    split at h
    · cases h
    · rename_i hc
      injection h with h1 h2
      refine .inl ⟨hs, h1.symm, h2.symm, fun hi hu => hc ?_⟩
      rw [hi, underB_spec.2 hu]
      rfl
  · split at h
    · split at h
      · split at h
        · split at h
          · injection h with h1 h2
            exact .inr (.inl ⟨by assumption, h1.symm, _, _, rfl, by assumption, h2.symm⟩)
          · cases h
        · cases h
      · cases h
    · injection h with h1 h2
      exact .inr (.inr ⟨by assumption, by assumption, h1.symm, h2.symm⟩)

theorem stF_fun {r : Nat} {q : List Nat} {o sz m : Nat} {src : Option Nat} (hsr : src ≠ some r) {X : Nat → Prop} (hX1 : X r) (hX2 : ∀ s, src = some s → X s) : Fun (stF r q o sz m src) X := by
  refine ⟨fun s z hX => ?_, fun s z s' z' hX h => ?_, fun s z s2 z2 s' z' h1 h2 => ?_, fun s z => ?_⟩
  · unfold stF
    rw [if_neg (fun e : s = r => hX (e ▸ hX1)), if_neg (fun e => hX (hX2 s e))]
  · rcases stF_key hsr h with ⟨_, rfl, _⟩ | ⟨_, rfl, _⟩ | ⟨_, _, rfl, _⟩
    · exact hX1
    · exact hX1
    · exact hX
  · rcases stF_key hsr h1 with ⟨rfl, rfl, rfl, hu⟩ | ⟨e1, rfl, y, rest, rfl, hy, rfl⟩ | ⟨e1, e2, rfl, rfl⟩
    · rcases stF_key hsr h2 with ⟨rfl, _, h4, _⟩ | ⟨e1, _, y, rest, rfl, hy, he⟩ | ⟨e1, e2, h3, h4⟩
      · exact ⟨rfl, h4⟩
      · exact absurd ⟨y, rest, hy, he⟩ (hu (by rw [e1]; rfl))
      · exact absurd h3.symm e1
    · rcases stF_key hsr h2 with ⟨rfl, _, h4, hu⟩ | ⟨e2, _, y2, rest2, rfl, hy2, he⟩ | ⟨e2, e3, h3, h4⟩
      · exact absurd ⟨y, rest, hy, h4.symm⟩ (hu (by rw [e1]; rfl))
      · have he := List.append_cancel_left he
        injection he with he1 he2
        rw [e1] at e2
        injection e2 with e2
        exact ⟨e2, by rw [show y = y2 by omega, he2]⟩
      · exact absurd h3.symm e2
    · rcases stF_key hsr h2 with ⟨h3, h5, _⟩ | ⟨e3, h5, _⟩ | ⟨e3, e4, h3, h4⟩
      · exact absurd h5 e1
      · exact absurd h5 e1
      · exact ⟨h3, h4⟩
  · unfold stF
    repeat' split
    all_goals simp

theorem modRoot_same {p : List St} {u u' : V} {t' : Ty} {y : t'.den} {log : List Nat} (h : (modRoot p u t' y).Runs T u' log) : u'.root = u.root ∧ u'.owns = u.owns ∧ u'.deep = u.deep ∧ u'.isD = u.isD := by
  cases u with
  | box l n t x =>
    obtain ⟨x2, l1, l2, rfl, h1, h2⟩ := M.runs_bind h
    obtain ⟨rfl, _⟩ := h2
    exact ⟨rfl, rfl, rfl, rfl⟩
  | d l n t x =>
    simp only [modRoot] at h
    split at h
    · obtain ⟨x2, l1, l2, rfl, h1, h2⟩ := M.runs_bind h
      obtain ⟨rfl, _⟩ := h2
      exact ⟨rfl, rfl, rfl, rfl⟩
    · exact h.elim
  | dead => exact h.elim
  | tup _ => exact h.elim
  | rp _ _ _ => exact h.elim
  | ptr _ _ _ => exact h.elim
  | view _ _ _ => exact h.elim
  | hole _ _ => exact h.elim
  | part _ _ _ _ _ => exact h.elim

theorem modRoot_d {p : List St} {l : Option Nat} {n : Nat} {t : Ty} {x : t.den} {u' : V} {t' : Ty} {y : t'.den} {log : List Nat} (h : (modRoot p (.d l n t x) t' y).Runs T u' log) : ∃ x2, u' = .d l n t x2 := by
  simp only [modRoot] at h
  split at h
  · obtain ⟨x2, l1, l2, rfl, h1, h2⟩ := M.runs_bind h
    obtain ⟨rfl, _⟩ := h2
    exact ⟨x2, rfl⟩
  · exact h.elim

/-- The root behind a store. -/
theorem modRoot_rep {T1 T2 : List V} {tm1 tm2 : Array Value} {p : List St} {u u' : V} {l : Option Nat} {n' : Nat} {t' : Ty} {x' y : t'.den} {log log2 : List Nat} {r g' : Nat} {cur cur' : Array Value} {e' : TypeId} {c : Value}
    (hs : SRep L T1 tm1 r u w c) (hz : (rootD p u).Runs T (l, ⟨n', t', x'⟩) log) (hm : (modRoot p u t' y).Runs T u' log2) (hdp : ∀ r', u.root = some r' → (T2.getD r' .dead).deep = true)
    (hu : Upd w w' L L' (SL L u.root) (SL L' u.root) r (node [] 0 p).1 (node [] 0 p).2 t'.sz g' cur cur' e')
    (hy : Own w' L' (SL L' u.root) r n' t' y (node [] 0 p).1 (node [] 0 p).2 ((cur'.toList.drop (node [] 0 p).2).take t'.sz)) : SRep L' T2 tm2 r u' w' c := by
  cases u with
  | box l0 n t x =>
    obtain ⟨zz, l1, l2, rfl, h1, h2⟩ := M.runs_bind hz
    obtain ⟨h2, _⟩ := h2
    cases h2
    obtain ⟨x2, l3, l4, rfl, h3, h4⟩ := M.runs_bind hm
    obtain ⟨rfl, _⟩ := h4
    obtain ⟨h0, g, curg, e, k1, k2, k3, k4, k5⟩ := hs
    obtain ⟨cur2, j1, j2, j3, j4, j5⟩ := modP_own (q := []) (o := 0) (g1 := g) (cur1 := curg) (e1 := e) hu hy rfl k2 k3 (by omega) (by
      rw [List.drop_zero, List.take_of_length_le (by rw [← k4]; simp)]; exact k5) h1 h3
    refine ⟨fun r' hr' => hdp r' hr', g, cur2, e, k1, j2, j1, by rw [j3]; exact k4, ?_⟩
    rw [List.drop_zero, List.take_of_length_le (by rw [← k4, ← j3]; simp)] at j5
    exact j5
  | d l0 n t x =>
    simp only [rootD] at hz
    split at hz
    · rename_i sz i p'
      obtain ⟨zz, l1, l2, rfl, h1, h2⟩ := M.runs_bind hz
      obtain ⟨h2, _⟩ := h2
      cases h2
      simp only [modRoot] at hm
      obtain ⟨x2, l3, l4, rfl, h3, h4⟩ := M.runs_bind hm
      obtain ⟨rfl, _⟩ := h4
      obtain ⟨h0, cs, k1, k2⟩ := hs
      cases t <;> cases n <;> simp only [getP] at h1 <;> try exact h1.elim
      rename_i e t n
      split at h1
      · rename_i hsz
        subst hsz
        obtain ⟨y0, hy0, h1⟩ := h1
        simp only [modP, if_true] at h3
        obtain ⟨y9, hy9, h3⟩ := h3
        obtain rfl : y0 = y9 := by rw [hy0] at hy9; exact Option.some.inj hy9
        obtain ⟨z2, l5, l6, rfl, h5, h6⟩ := M.runs_bind h3
        obtain ⟨rfl, _⟩ := h6
        obtain ⟨hi, hi0, rfl⟩ := getI_some hy0
        simp only [Own] at k2
        rcases k2 with ⟨_, rfl⟩ | ⟨g2, cap, cur2, hcs, hL, hg, m1, m2, m3, m4⟩
        · exact absurd hi (by simp)
        · have hb : i.toNat * t.sz + t.sz ≤ cur2.size := by
            rw [m3]
            calc i.toNat * t.sz + t.sz = (i.toNat + 1) * t.sz := by rw [Nat.add_mul, Nat.one_mul]
              _ ≤ cap * t.sz := Nat.mul_le_mul_right _ (by omega)
          have hL2 : L g2 = .own r ([] ++ [0]) := hL
          obtain ⟨cur3, j1, j2, j3, j4, j5⟩ := modP_own hu hy (p := p') (q := [] ++ [0]) (o := i.toNat * t.sz) (g1 := g2) (cur1 := cur2) (e1 := e) rfl hL2 hg hb (m4 _ hi) h1 h5
          have hr1 : Reach ([] ++ [0]) (i.toNat * t.sz) t.sz (node [] 0 (St.idx t.sz i :: p')).1 (node [] 0 (St.idx t.sz i :: p')).2 t'.sz := getP_reach (q := [] ++ [0]) (o := i.toNat * t.sz) h1
          refine ⟨fun r' hr' => hdp r' hr', cs, k1, ?_⟩
          simp only [Own]
          refine .inr ⟨g2, cap, cur3, by rw [hcs]; simp, j2, j1, by simpa using m1, m2, by rw [j3]; exact m3, fun j hj => ?_⟩
          simp only [List.length_set] at hj
          by_cases hji : j = i.toNat
          · subst hji
            have : (x.set i.toNat z2)[i.toNat]'(by simpa using hi) = z2 := List.getElem_set_self _
            rw [this]
            exact j5
          · have he : (x.set i.toNat z2)[j]'(by simpa using hj) = x[j] := List.getElem_set_ne (fun e => hji e.symm) _
            rw [he]
            have hd : (j * t.sz + t.sz ≤ i.toNat * t.sz) ∨ (i.toNat * t.sz + t.sz ≤ j * t.sz) := by
              rcases Nat.lt_or_gt_of_ne hji with h | h
              · left
                calc j * t.sz + t.sz = (j + 1) * t.sz := by rw [Nat.add_mul, Nat.one_mul]
                  _ ≤ i.toNat * t.sz := Nat.mul_le_mul_right _ h
              · right
                calc i.toNat * t.sz + t.sz = (i.toNat + 1) * t.sz := by rw [Nat.add_mul, Nat.one_mul]
                  _ ≤ j * t.sz := Nat.mul_le_mul_right _ h
            rw [take_drop_same (cur := cur2) (fun i' h1 h2 => j4 i' (by omega))]
            exact Own.sib hu hr1 (by omega) (m4 j hj)
      · exact h1.elim
    · exact hz.elim
  | dead => exact hz.elim
  | tup _ => exact hz.elim
  | rp _ _ _ => exact hz.elim
  | ptr _ _ _ => exact hz.elim
  | view _ _ _ => exact hz.elim
  | hole _ _ => exact hz.elim
  | part _ _ _ _ _ => exact hz.elim

/-- New cells at a place. -/
def putCells (cur : Array Value) (o : Nat) (cs : List Value) : Array Value := (cur.toList.take o ++ cs ++ cur.toList.drop (o + cs.length)).toArray

theorem putCells_size {cur : Array Value} {o : Nat} {cs : List Value} (h : o + cs.length ≤ cur.size) : (putCells cur o cs).size = cur.size := by
  simp [putCells]; omega

theorem putCells_at {cur : Array Value} {o : Nat} {cs : List Value} (h : o + cs.length ≤ cur.size) : ((putCells cur o cs).toList.drop o).take cs.length = cs := by
  have : (cur.toList.take o).length = o := by simp; omega
  simp only [putCells, List.append_assoc]
  rw [List.drop_left' this, List.take_left' rfl]

theorem putCells_out {cur : Array Value} {o : Nat} {cs : List Value} (h : o + cs.length ≤ cur.size) (i : Nat) (hi : i < o ∨ o + cs.length ≤ i) : (putCells cur o cs)[i]? = cur[i]? := by
  have hl : (cur.toList.take o).length = o := by simp; omega
  simp only [putCells, List.getElem?_toArray]
  rcases hi with hi | hi
  · rw [List.append_assoc, List.getElem?_append_left (by omega), List.getElem?_take_of_lt hi]
    simp
  · rw [List.getElem?_append_right (by simp; omega), List.getElem?_drop]
    simp only [List.length_append, hl]
    rw [show o + cs.length + (i - (o + cs.length)) = i by omega]
    simp

theorem Inv.store (hI : Inv w0 L0 N vs T a w L) {r : Nat} {p : List St} {u u' : V} {l : Option Nat} {n' m : Nat} {t' : Ty} {x' y : t'.den} {log log2 : List Nat} {src : Option Nat} {g' : Nat} {cur : Array Value} {e : TypeId} {cs : List Value}
    (hr : T.getD r .dead = u) (hz : (rootD p u).Runs T (l, ⟨n', t', x'⟩) log) (hm : (modRoot p u t' y).Runs T u' log2) (hself : u.root ≠ some r)
    (hg : L g' = .own r (node [] 0 p).1) (hh : w.heap[g']? = some (.cells cur e (0, 0))) (hsz : (node [] 0 p).2 + t'.sz ≤ cur.size) (hlen : cs.length = t'.sz)
    (hsrc : ∀ s, src = some s → s ≠ r ∧ s ∉ vs ∧ T'.getD s .dead = .dead ∧ (T.getD s .dead).root = none) (hlenT : T'.length = N) (hTr : T'.getD r .dead = u')
    (hT : ∀ s, s ≠ r → src ≠ some s → (T.getD s .dead).on r = true → (T'.getD s .dead = .dead ∧ (T.getD s .dead).owns = false) ∨ (T'.getD s .dead = T.getD s .dead ∧ (keepable u src (T.getD s .dead) = true ∨ (src = none ∧ shallow p = false ∧ u.isD = false ∧ ∃ p2 t2, T.getD s .dead = .view r p2 t2 ∧ shallow p2 = true))))
    (hT2 : ∀ s, s ≠ r → src ≠ some s → (T.getD s .dead).on r = false → T'.getD s .dead = T.getD s .dead)
    (hy : Own (w.setRow g' (putCells cur (node [] 0 p).2 cs)) (newLab (stF r (node [] 0 p).1 (node [] 0 p).2 t'.sz m src) w L (fun _ => .free)) (SL (newLab (stF r (node [] 0 p).1 (node [] 0 p).2 t'.sz m src) w L (fun _ => .free)) u.root) r n' t' y (node [] 0 p).1 (node [] 0 p).2 cs) :
    Inv w0 L0 N vs T' a (w.setRow g' (putCells cur (node [] 0 p).2 cs)) (newLab (stF r (node [] 0 p).1 (node [] 0 p).2 t'.sz m src) w L (fun _ => .free)) := by
  obtain ⟨hrt, hown', hdeep', hisd'⟩ := modRoot_same hm
  have hsr : src ≠ some r := fun e => (hsrc r e).1 rfl
  have hsl := hI.slots r
  rw [hr] at hsl
  obtain ⟨_, hlend, _, howns, hisd⟩ := rootD_inB hz hsl
  have hl : u.root = l := by
    cases u with
    | box l0 n t x =>
      obtain ⟨zz, l1, l2, rfl, h1, h2⟩ := M.runs_bind hz
      obtain ⟨h2, _⟩ := h2
      cases h2
      rfl
    | d l0 n t x =>
      simp only [rootD] at hz
      split at hz
      · obtain ⟨zz, l1, l2, rfl, h1, h2⟩ := M.runs_bind hz
        obtain ⟨h2, _⟩ := h2
        cases h2
        rfl
      · exact hz.elim
    | dead => exact hz.elim
    | tup _ => exact hz.elim
    | rp _ _ _ => exact hz.elim
    | ptr _ _ _ => exact hz.elim
    | view _ _ _ => exact hz.elim
    | hole _ _ => exact hz.elim
    | part _ _ _ _ _ => exact hz.elim
  let X : Nat → Prop := fun s => s = r ∨ src = some s ∨ (T.getD s .dead).on r = true
  have hfun : Fun (stF r (node [] 0 p).1 (node [] 0 p).2 t'.sz m src) X := stF_fun hsr (.inl rfl) (fun s h => .inr (.inl h))
  have hw' : ∀ k, k ≠ g' → (w.setRow g' (putCells cur (node [] 0 p).2 cs)).heap[k]? = w.heap[k]? := fun k hk => setRow_other w g' k _ hk
  have hwd : Wd w (w.setRow g' (putCells cur (node [] 0 p).2 cs)) L (fun _ => .free) X := by
    refine ⟨rfl, rfl, rfl, by simp [World.setRow], fun k hk hx => hw' k ?_, fun _ _ => rfl, fun _ _ _ _ h => by cases h⟩
    rintro rfl
    exact hx r _ hg (.inl rfl)
  -- a lender is not touched
  have hlX : ∀ r', u.root = some r' → ¬ X r' := by
    intro r' hr' hx
    have hd : (T.getD r' .dead).deep = true := hlend r' (by rw [← hl]; exact hr')
    have ho := V.owns_of_deep hd
    rcases hx with rfl | hx | hx
    · exact hself hr'
    · have := hI.roots r r' (by rw [hr]; simp [V.on, hr'])
      exact (hsrc r' hx).2.1 this
    · by_cases hrr : r' = r
      · exact hself (by rw [← hrr]; exact hr')
      · by_cases hs' : src = some r'
        · exact (hsrc r' hs').2.1 (hI.roots r r' (by rw [hr]; simp [V.on, hr']))
        · rcases hT r' hrr hs' hx with ⟨_, h⟩ | ⟨_, h | ⟨_, _, _, p2, t2, h, _⟩⟩
          · rw [h] at ho; cases ho
          · generalize T.getD r' .dead = v at h ho
            cases v <;> simp [keepable] at h <;> simp [V.owns] at ho
          · rw [h] at ho; cases ho
  have hnotT : ∀ s, ¬ X s → T'.getD s .dead = T.getD s .dead := by
    intro s hs
    have hs := not_or.1 hs
    have hs2 := not_or.1 hs.2
    exact hT2 s hs.1 hs2.1 (by simpa using hs2.2)
  refine Inv.updF (X := X) hI hfun hwd (fun _ _ _ _ _ h => by cases h) hI.size hlenT hI.dfr ?_ ?_ (fun s hs => ⟨hnotT s hs, rfl⟩) ?_ ?_
  · -- who owns
    intro k s q hX h
    by_cases hs : s = r
    · subst hs; rw [hTr, hown']; exact howns
    · unfold newLab at h
      split at h
      · obtain ⟨s0, q0, e0, f0⟩ := relab_own h
        rcases stF_key hsr f0 with ⟨_, rfl, _⟩ | ⟨_, rfl, _⟩ | ⟨h1, h2, rfl, rfl⟩
        · exact absurd rfl hs
        · exact absurd rfl hs
        · have ho := hI.owner k s q e0
          rcases hX with h3 | h3 | h3
          · exact absurd h3 hs
          · exact absurd h3 h2
          · rcases hT s hs h2 h3 with ⟨_, h⟩ | ⟨h4, _⟩
            · rw [h] at ho; cases ho
            · rw [h4]; exact ho
      · cases h
  · intro s r' hs hon hr'
    rcases hr' with rfl | hr' | hr'
    · exact absurd (.inr (.inr hon)) hs
    · exact absurd (hI.roots s r' hon) (hsrc r' hr').2.1
    · by_cases hrr : r' = r
      · subst hrr; exact absurd (.inr (.inr hon)) hs
      · by_cases hs' : src = some r'
        · exact absurd (hI.roots s r' hon) (hsrc r' hs').2.1
        · rcases hT r' hrr hs' hr' with ⟨_, h⟩ | ⟨_, h | ⟨_, _, _, p2, t2, h, _⟩⟩
          · exact h
          · generalize T.getD r' .dead = v at h
            cases v <;> simp [keepable] at h <;> simp [V.owns]
          · rw [h]; rfl
  · intro s r' hX hon
    by_cases hs : s = r
    · subst hs
      rw [hTr] at hon
      refine hI.roots s r' ?_
      rw [hr]
      simpa [V.on, hrt] using hon
    · by_cases hs' : src = some s
      · rw [(hsrc s hs').2.2.1] at hon
        simp [V.on, V.root] at hon
      · cases ho : (T.getD s .dead).on r with
        | false =>
          rw [hT2 s hs hs' ho] at hon
          exact hI.roots s r' hon
        | true =>
          rcases hT s hs hs' ho with ⟨h, _⟩ | ⟨h, _⟩
          · rw [h] at hon; simp [V.on, V.root] at hon
          · rw [h] at hon; exact hI.roots s r' hon
  · intro s hX
    have hLg : newLab (stF r (node [] 0 p).1 (node [] 0 p).2 t'.sz m src) w L (fun _ => .free) g' = .own r (node [] 0 p).1 := by
      rw [newLab_old hI (by rw [hg]; simp), hg]
      simp only [relab, stF]
      rw [if_pos trivial, if_neg]
      intro h
      simp only [Bool.and_eq_true] at h
      obtain ⟨d, rest, _, h⟩ := underB_spec.1 h.2
      have := congrArg List.length h
      simp at this
    have hnone : ∀ k q, src = none → L k = .own r q → newLab (stF r (node [] 0 p).1 (node [] 0 p).2 t'.sz m src) w L (fun _ => .free) k = .own r q := by
      intro k q hn hk
      rw [newLab_old hI (by rw [hk]; simp), hk]
      simp [relab, stF, hn]
    by_cases hs : s = r
    · subst hs
      rw [hTr]
      have hat : ((putCells cur (node [] 0 p).2 cs).toList.drop (node [] 0 p).2).take t'.sz = cs := by
        have := putCells_at (cur := cur) (o := (node [] 0 p).2) (cs := cs) (by omega)
        rwa [hlen] at this
      refine modRoot_rep (cur := cur) (e' := e) (g' := g') (cur' := putCells cur (node [] 0 p).2 cs) hsl hz hm (fun r' hr' => ?_) ?_ (by rw [hat]; exact hy)
      · rw [hnotT r' (hlX r' hr')]
        exact hlend r' (by rw [← hl]; exact hr')
      · refine ⟨fun k hk => ?_, fun k q2 hk hq hu => ?_, hg, hLg, hh, setRow_heap w g' cur _ e _ hh, putCells_size (by omega), fun i hi => putCells_out (by omega) i (by omega), fun k hk => hI.inj k g' s _ hk hg⟩
        · rcases hk with hk | ⟨r', q, hr', hk⟩
          · exact ⟨.inl (newLab_stable hI hk), hw' k (by rintro rfl; rw [hg] at hk; cases hk)⟩
          · refine ⟨.inr ⟨r', q, hr', newLab_id hI hfun hk (hlX r' hr')⟩, hw' k ?_⟩
            rintro rfl
            rw [hg] at hk
            injection hk with hk _
            exact hlX r' hr' (.inl hk.symm)
        · refine ⟨?_, hw' k ?_⟩
          · rw [newLab_old hI (by rw [hk]; simp), hk]
            simp only [relab, stF]
            rw [if_pos trivial, if_neg]
            intro h
            simp only [Bool.and_eq_true] at h
            exact hu (underB_spec.1 h.2)
          · rintro rfl
            rw [hg] at hk
            injection hk with _ hk
            exact hq hk.symm
    · by_cases hs' : src = some s
      · rw [(hsrc s hs').2.2.1]; trivial
      · have ho : (T.getD s .dead).on r = true := by
          rcases hX with h | h | h
          · exact absurd h hs
          · exact absurd h hs'
          · exact h
        rcases hT s hs hs' ho with ⟨h, _⟩ | ⟨h, hk | ⟨hn0, hpd, hud, p2, t2, hv2, hsh⟩⟩
        · rw [h]; trivial
        rotate_left
        · rw [h]
          have hsl' := hI.slots s
          rw [hv2] at hsl' ⊢
          obtain ⟨hd, h1⟩ := hsl'
          refine ⟨by rw [hTr, hdeep']; rw [hr] at hd; exact hd, .inr ?_⟩
          rcases h1 with ⟨_, _, l1, n1, x1, h2, _⟩ | ⟨g, cur1, e1, h1, h2, h3, h4, h5⟩
          · rw [hr] at h2
            rw [h2] at hud; cases hud
          · have hgn : g ≠ g' := by
              rintro rfl
              rw [h2] at hg
              injection hg with _ hg
              rw [shallow_node hsh] at hg
              exact deep_node hpd hg.symm
            exact ⟨g, cur1, e1, by rw [hTr, hisd', hud]; exact .inl rfl, hnone g _ hn0 h2, by rw [hw' g hgn]; exact h3, h4, h5⟩
        · rw [h]
          have hsl' := hI.slots s
          generalize hv : T.getD s .dead = v at hk ho hsl'
          cases v with
          | ptr r2 p2 t2 =>
            obtain ⟨g, h1, h2⟩ := hsl'
            have hr2 : r2 = r := by simpa [V.on, V.root] using ho
            subst hr2
            refine ⟨g, h1, ?_⟩
            have hk : src.isNone = true ∨ shallow p2 = true := by
              simp only [keepable, Bool.or_eq_true, Bool.and_eq_true] at hk
              exact hk.imp id And.left
            rcases hk with hk | hk
            · exact hnone g _ (by simpa using hk) h2
            · rw [shallow_node hk] at h2 ⊢
              rw [newLab_old hI (by rw [h2]; simp), h2]
              simp only [relab, stF]
              rw [if_pos trivial, if_neg]
              intro h
              simp only [Bool.and_eq_true] at h
              obtain ⟨d, rest, _, h⟩ := underB_spec.1 h.2
              have := congrArg List.length h
              simp at this
          | view r2 p2 t2 =>
            have hr2 : r2 = r := by simpa [V.on, V.root] using ho
            subst hr2
            cases p2 with
            | cons _ _ => simp [keepable] at hk
            | nil =>
              obtain ⟨hd, h1⟩ := hsl'
              refine ⟨by rw [hTr, hdeep']; rw [hr] at hd; exact hd, .inl ⟨rfl, ?_, ?_⟩⟩
              · rcases h1 with ⟨_, h2, _⟩ | ⟨_, _, _, h2, _⟩
                · exact h2
                · rw [hr] at h2
                  simp only [keepable] at hk
                  rw [hk] at h2
                  simp at h2
              · rcases h1 with ⟨_, _, l1, n1, x1, h2, h3⟩ | ⟨_, _, _, h2, _⟩
                · rw [hr] at h2
                  rw [hTr]
                  subst h2
                  obtain ⟨x2, rfl⟩ := modRoot_d hm
                  exact ⟨_, _, _, rfl, h3⟩
                · rw [hr] at h2
                  simp only [keepable] at hk
                  rw [hk] at h2
                  simp at h2
          | dead => simp [keepable] at hk
          | tup _ => simp [keepable] at hk
          | d _ _ _ _ => simp [keepable] at hk
          | box _ _ _ _ => simp [keepable] at hk
          | rp _ _ _ => simp [keepable] at hk
          | hole _ _ => simp [keepable] at hk
          | part _ _ _ _ _ => simp [keepable] at hk

end
end Go.Proofs.Ytdfcejijcnhcaaa.D.Am

set_option linter.unusedVariables false
set_option linter.unusedSimpArgs false
namespace Go.Proofs.Ytdfcejijcnhcaaa.D.Am

/-! ## 25. Stores -/
def addrOf (t : Nat) : V → Option (Nat × List St)
  | .ptr r p _ => some (r, p)
  | .box _ _ _ _ => some (t, [])
  | _ => none

/-- All slots. -/
def allM : Nat → Nat → M (List V)
  | _, 0 => .ret []
  | i, n + 1 => .get i fun v => (allM (i + 1) n).bind fun l => .ret (v :: l)

def depsU (r : Nat) (root : V) (src : Option Nat) : Nat → List V → List (Nat × V)
  | _, [] => []
  | i, v :: l => cond (v.on r && i != r && src != some i && !keepable root src v) ((i, .dead) :: depsU r root src (i + 1) l) (depsU r root src (i + 1) l)

def depsOk (r : Nat) (root : V) (src : Option Nat) : Nat → List V → Bool
  | _, [] => true
  | i, v :: l => (!(v.on r && i != r && src != some i && !keepable root src v) || !v.owns) && depsOk r root src (i + 1) l

/-- A value to be stored: its data; the slot that gives it up. -/
def valM (C : Ctx) (vs : List Nat) (X : TypeId) (x : Operand) (t : Ty) (n r : Nat) : M (t.den × Option Nat) :=
  (opnd C X x).bind fun v => match v with
  | .d none k tv y => if h : tv = t then
      if t.depth = 0 ∨ (n = 0 ∧ k = 0) then .ret (h ▸ y, none)
      else match x with
        | .tmp s => if n ≠ 0 ∧ (n ≤ k ∨ t.depth ≤ k) ∧ k ≠ 0 ∧ vs.contains s = false ∧ s ≠ r then .ret (h ▸ y, some s) else .fail
        | .const _ => if n ≤ k then .ret (h ▸ y, none) else .fail
        | _ => .fail
    else .fail
  | _ => .fail

def maskOf (strong : Bool) : List Nat → Nat
  | [] => cond strong 1 0
  | k :: l => 2 ^ (k + 1) ||| maskOf strong l

def kidsM {α : Type} (strong : Bool) (r s : Nat) : List Nat → M α → M α
  | [], m => m
  | k :: l, m => cond (k == s) (kidsM strong r s l m) (.get k fun v => .chk (!cond strong (v.on r) (v.deepOn r)) (kidsM strong r s l m))

/-- Nothing but slot s hangs on r (or: speaks of r's memory). -/
def bareM {α : Type} (strong : Bool) (r s : Nat) (kids : List Nat) (m : M α) : M α :=
  if r < 100000 then kidsM strong r s kids (.ask (bareKey r (maskOf strong (s :: kids))) m) else .fail

def storeM (C : Ctx) (vs : List Nat) (N : Nat) (bk : Option (List Nat)) (X : TypeId) (t : Nat) (x : Operand) : M (List (Nat × V)) :=
  .get t fun v => match addrOf t v with
  | none => .fail
  | some (r, p) => .get r fun u => (rootD p u).bind fun z =>
    if C.ty X = some z.2.t ∧ (u.root != some r) = true ∧ r < N then
      (valM C vs X x z.2.t z.2.n r).bind fun y =>
      (modRoot p u z.2.t y.1).bind fun u' =>
      cond (!u.deep && y.2.isNone) (.ret [(r, u')])
        (match bk with
          | some ks => .chk u.boxy (bareM false r (y.2.getD r) ks (.ret ((r, u') :: y.2.toList.map (fun s => (s, V.dead)))))
          | none => (allM 0 N).bind fun Ts => .chk (depsOk r u y.2 0 Ts) (.ret ((r, u') :: (y.2.toList.map (fun s => (s, V.dead)) ++ depsU r u y.2 0 Ts))))
    else .fail

section
variable {P : Program} {C : Ctx} {w w' w0 : World} {S S' : Nat → Prop} {L L' L0 : Nat → Lab} {s N : Nat} {vs : List Nat} {T T' : List V} {tm tm' : Array Value} {a : Act}

theorem allM_runs : {n i : Nat} → {l : List V} → {log : List Nat} → (allM i n).Runs T l log → i + n = T.length → l = T.drop i
  | 0, i, l, log, h, hl => by
    obtain ⟨rfl, _⟩ := h
    rw [List.drop_eq_nil_of_le (by omega)]
  | n + 1, i, l, log, h, hl => by
    obtain ⟨log', rfl, h⟩ := h
    obtain ⟨l', l1, l2, rfl, h1, h2⟩ := M.runs_bind h
    obtain ⟨rfl, _⟩ := h2
    rw [allM_runs h1 (by omega)]
    have hlt : i < T.length := by omega
    rw [List.getD_eq_getElem?_getD, List.getElem?_eq_getElem hlt]
    simp

theorem getD_setAll_mem {ups : List (Nat × V)} {T : List V} {s : Nat} {v : V} (hs : s < T.length) (hm : s ∈ ups.map (·.1)) (h : ∀ v', (s, v') ∈ ups → v' = v) : (setAll T ups).getD s .dead = v := by
  have key : ∀ (ups : List (Nat × V)) (T : List V), s < T.length → (∀ v', (s, v') ∈ ups → v' = v) → (T.getD s .dead = v ∨ s ∈ ups.map (·.1)) → (setAll T ups).getD s .dead = v := by
    intro ups
    induction ups with
    | nil =>
      intro T _ _ h
      exact h.resolve_right (by simp)
    | cons u l ih =>
      intro T hs h hm
      show (setAll (T.set u.1 u.2) l).getD s .dead = v
      refine ih _ (by simpa using hs) (fun v' hv => h v' (by simp [hv])) ?_
      by_cases hu : s = u.1
      · left
        rw [getD_set, if_pos ⟨hu, by rw [← hu]; exact hs⟩]
        exact h u.2 (by rw [hu]; simp)
      · rcases hm with hm | hm
        · left
          rw [getD_set, if_neg (fun e => hu e.1)]
          exact hm
        · right
          simp only [List.map_cons, List.mem_cons] at hm
          exact hm.resolve_left hu
  exact key ups T hs h (.inr hm)

theorem maskOf_bit {strong : Bool} {z : Nat} : {l : List Nat} → z ∉ l → (maskOf strong l).testBit (z + 1) = false
  | [], _ => by cases strong <;> simp [maskOf, Nat.testBit_succ]
  | k :: l, h => by
    simp only [List.mem_cons, not_or] at h
    simp only [maskOf, Nat.testBit_or, maskOf_bit h.2, Bool.or_false]
    rw [Nat.testBit_two_pow]
    simp
    omega

theorem maskOf_zero {strong : Bool} : {l : List Nat} → (maskOf strong l).testBit 0 = strong
  | [] => by cases strong <;> simp [maskOf]
  | k :: l => by
    simp only [maskOf, Nat.testBit_or, maskOf_zero (l := l)]
    rw [Nat.testBit_two_pow]
    simp

theorem kidsM_runs {α : Type} {strong : Bool} {r s : Nat} {m : M α} {x : α} : {l : List Nat} → {log : List Nat} → (kidsM strong r s l m).Runs T x log → (∀ k ∈ l, k ≠ s → cond strong ((T.getD k .dead).on r) ((T.getD k .dead).deepOn r) = false) ∧ ∃ log', m.Runs T x log'
  | [], log, h => ⟨by simp, log, h⟩
  | k :: l, log, h => by
    simp only [kidsM] at h
    cases hk : (k == s) with
    | true =>
      rw [hk] at h
      obtain ⟨h1, h2⟩ := kidsM_runs (l := l) h
      refine ⟨fun k' hk' hne => ?_, h2⟩
      rcases List.mem_cons.1 hk' with rfl | hk'
      · exact absurd (by simpa using hk) hne
      · exact h1 k' hk' hne
    | false =>
      rw [hk] at h
      obtain ⟨log', rfl, hc, h⟩ := h
      obtain ⟨h1, h2⟩ := kidsM_runs (l := l) h
      refine ⟨fun k' hk' hne => ?_, h2⟩
      rcases List.mem_cons.1 hk' with rfl | hk'
      · simpa using hc
      · exact h1 k' hk' hne

theorem bareM_runs {α : Type} {strong : Bool} {r s : Nat} {kids : List Nat} {m : M α} {x : α} {log : List Nat} (h : (bareM strong r s kids m).Runs T x log) :
    (∀ z, z ≠ s → cond strong ((T.getD z .dead).on r) ((T.getD z .dead).deepOn r) = false) ∧ ∃ log', m.Runs T x log' := by
  unfold bareM at h
  split at h
  · rename_i hr
    obtain ⟨h1, log', h⟩ := kidsM_runs h
    obtain ⟨⟨hq, _⟩, log2, rfl, h⟩ := h
    refine ⟨fun z hz => ?_, log2, h⟩
    by_cases hm : z ∈ kids
    · exact h1 z hm hz
    · have := ask_bare hr hq z (maskOf_bit (by simp [hz, hm]))
      rwa [maskOf_zero] at this
  · exact h.elim

theorem depsU_mem {r : Nat} {root : V} {src : Option Nat} : {i : Nat} → {l : List V} → (s : Nat) → (v : V) → ((s, v) ∈ depsU r root src i l ↔ v = .dead ∧ i ≤ s ∧ s < i + l.length ∧ ((l.getD (s - i) .dead).on r && s != r && src != some s && !keepable root src (l.getD (s - i) .dead)) = true)
  | i, [], s, v => by simp [depsU]; omega
  | i, v0 :: l, s, v => by
    have ih := depsU_mem (r := r) (root := root) (src := src) (i := i + 1) (l := l) s v
    have hsh : i + 1 ≤ s → (v0 :: l).getD (s - i) .dead = l.getD (s - (i + 1)) .dead := fun h => by
      rw [show s - i = (s - (i + 1)) + 1 by omega, List.getD_cons_succ]
    simp only [depsU]
    cases hc : (v0.on r && i != r && src != some i && !keepable root src v0) with
    | true =>
      simp only [cond_true, List.mem_cons, Prod.mk.injEq, ih, List.length_cons]
      constructor
      · rintro (⟨rfl, rfl⟩ | ⟨h1, h2, h3, h4⟩)
        · refine ⟨rfl, Nat.le_refl _, by omega, ?_⟩
          rw [Nat.sub_self, List.getD_cons_zero]
          exact hc
        · refine ⟨h1, by omega, by omega, ?_⟩
          rw [hsh h2]
          exact h4
      · rintro ⟨h1, h2, h3, h4⟩
        by_cases hs : s = i
        · exact .inl ⟨hs, h1⟩
        · refine .inr ⟨h1, by omega, by omega, ?_⟩
          rw [← hsh (by omega)]
          exact h4
    | false =>
      simp only [cond_false, ih, List.length_cons]
      constructor
      · rintro ⟨h1, h2, h3, h4⟩
        refine ⟨h1, by omega, by omega, ?_⟩
        rw [hsh h2]
        exact h4
      · rintro ⟨h1, h2, h3, h4⟩
        by_cases hs : s = i
        · subst hs
          rw [Nat.sub_self, List.getD_cons_zero, hc] at h4
          cases h4
        · refine ⟨h1, by omega, by omega, ?_⟩
          rw [← hsh (by omega)]
          exact h4

theorem depsOk_spec {r : Nat} {root : V} {src : Option Nat} : {i : Nat} → {l : List V} → depsOk r root src i l = true → ∀ s, s < l.length → ((l.getD s .dead).on r && (i + s) != r && src != some (i + s) && !keepable root src (l.getD s .dead)) = true → (l.getD s .dead).owns = false
  | _, [], _, s, hs, _ => by simp at hs
  | i, v0 :: l, h, s, hs, hc => by
    simp only [depsOk, Bool.and_eq_true, Bool.or_eq_true, Bool.not_eq_true'] at h
    cases s with
    | zero =>
      simp only [List.getD_cons_zero, Nat.add_zero] at hc ⊢
      rcases h.1 with h | h
      · rw [hc] at h; cases h
      · exact h
    | succ s =>
      simp only [List.getD_cons_succ] at hc ⊢
      exact depsOk_spec h.2 s (by simpa using hs) (by rwa [show i + 1 + s = i + (s + 1) by omega])

theorem deps_none {r : Nat} {root : V} {src : Option Nat} : {i : Nat} → {l : List V} → (∀ s, (l.getD s .dead).on r = true → i + s ≠ r → src ≠ some (i + s) → keepable root src (l.getD s .dead) = true) → depsU r root src i l = [] ∧ depsOk r root src i l = true
  | i, [], _ => ⟨rfl, rfl⟩
  | i, v :: l, h => by
    obtain ⟨h1, h2⟩ := deps_none (r := r) (root := root) (i := i + 1) (l := l) (fun s hs hr hn => by
      have := h (s + 1) (by simpa using hs) (by omega) (by rw [show i + (s + 1) = i + 1 + s by omega]; exact hn)
      simpa using this)
    have h0 : (v.on r && i != r && src != some i && !keepable root src v) = false := by
      rw [Bool.eq_false_iff]
      intro hc
      simp only [Bool.and_eq_true, Bool.not_eq_true', bne_iff_ne] at hc
      have := h 0 (by simpa using hc.1.1.1) (by simpa using hc.1.1.2) (by simpa using hc.1.2)
      rw [List.getD_cons_zero, hc.2] at this
      cases this
    simp [depsU, depsOk, h0, h1, h2]

/-- On a flat root nothing hangs but addresses. -/
theorem flat_keep (hI : Inv w0 L0 N vs T a w L) {r : Nat} (hb : (T.getD r .dead).deep = false) (hbx : ∀ A, a.tmps.getD r undef = .tuple A → False) (s : Nat) (hs : (T.getD s .dead).on r = true) : keepable (T.getD r .dead) none (T.getD s .dead) = true := by
  have h := hI.slots s
  generalize hv : T.getD s .dead = v at h hs
  have hno : (T.getD r .dead).deep = true → False := fun h => by rw [hb] at h; cases h
  have hroot : ∀ {q}, v.root = some q → q = r := fun h => by simpa [V.on, h] using hs
  cases v with
  | ptr r' p t => rfl
  | d l n t x => exact (hno (h.1 r (by simpa [V.on, V.root] using hs))).elim
  | box l n t x => exact (hno (h.1 r (by simpa [V.on, V.root] using hs))).elim
  | rp l t x => exact (hno (h.1 r (by simpa [V.on, V.root] using hs))).elim
  | view r' p t => have := hroot rfl; subst this; exact (hno h.1).elim
  | part r' i n t x =>
    have := hroot rfl
    subst this
    obtain ⟨_, A, _, _, h1, _⟩ := h
    exact (hbx A h1).elim
  | hole v p =>
    have := hroot (q := r) (by simpa [V.on, V.root] using hs)
    have h0 : v.root = none := h.1
    have h1 : v.root = some r := by simpa [V.on, V.root] using hs
    rw [h0] at h1
    cases h1
  | dead => simp [V.on, V.root] at hs
  | tup l => simp [V.on, V.root] at hs

/-- Data that needs no memory may be held anywhere. -/
theorem Own.void {n m : Nat} {t : Ty} {x : t.den} {q q' : List Nat} {o o' s' : Nat} {cs : List Value} (hm : m ≤ n) (h : Own w (fun _ => .free) (fun _ => False) s n t x q o cs) : Own w' L' S' s' m t x q' o' cs :=
  Own.moveLow hm (fun k hk => hk.elim) (fun k d rest _ hk => by cases hk) h

theorem SL_free {k : Nat} : ¬ SL (fun _ => Lab.free) none k := by
  rintro (h | ⟨_, _, h, _⟩) <;> cases h

theorem run_store_cells {X : TypeId} {t : Ty} (h : TyOk P C X t) {g o : Nat} {cur : Array Value} {e : TypeId} {c : Value} {cs : List Value} (hh : w.heap[g]? = some (.cells cur e (0, 0))) (hf : Form t cs c) (h1 : ∀ v ∈ cs, v.oneCell' = true)
    (hl : cs.length = t.sz) (hb : o + t.sz ≤ cur.size) : (Instr.storeAt X (.pointer (some ⟨g, o, none⟩)) c).run P w = .ok () (w.setRow g (putCells cur o cs)) := by
  have hc := Form.cells hf h1
  have hsz : c.cells.size = t.sz := by rw [← Array.length_toList, hc, hl]
  have hst := run_storeCells_at P g o e cs 0 cur w hh (by simp; omega) h1
  simp only [Nat.add_zero] at hst
  simp [Instr.storeAt, Instr.sureAddr, storeVar, h.run_sizeOf, hsz, hc, hst, putCells]

theorem step_store (hI : Inv w0 L0 N vs T a w L) (hC : CtxOk P C) {o : Oper} {X : TypeId} {t : Nat} {x : Operand} {ups : List (Nat × V)} {log : List Nat} (ho : o.op = .store X (.tmp t) x) (hdst : o.dst = none)
    {bk : Option (List Nat)} (h : (storeM C vs N bk X t x).Runs T ups log) : Step P o w0 L0 N vs (setAll T ups) a w := by
  obtain ⟨log0, rfl, h⟩ := h
  have hst := hI.slots t
  -- the address
  have haddr : ∀ r p, addrOf t (T.getD t .dead) = some (r, p) → ∃ g, a.eval (.tmp t) = .pointer (some ⟨g, (node [] 0 p).2, none⟩) ∧ L g = .own r (node [] 0 p).1 := by
    intro r p he
    generalize T.getD t .dead = v at he hst
    cases v with
    | ptr r2 p2 t2 =>
      simp only [addrOf, Option.some.injEq, Prod.mk.injEq] at he
      obtain ⟨rfl, rfl⟩ := he
      exact hst
    | box l n t2 x2 =>
      simp only [addrOf, Option.some.injEq, Prod.mk.injEq] at he
      obtain ⟨rfl, rfl⟩ := he
      obtain ⟨_, g, cur, e, h1, h2, _⟩ := hst
      exact ⟨g, h1, h2⟩
    | dead => cases he
    | tup _ => cases he
    | d _ _ _ _ => cases he
    | rp _ _ _ => cases he
    | view _ _ _ => cases he
    | hole _ _ => cases he
    | part _ _ _ _ _ => cases he
  dsimp only at h
  split at h
  · exact h.elim
  · rename_i r p he
    obtain ⟨g, hev, hg⟩ := haddr r p he
    obtain ⟨log1, rfl, h⟩ := h
    obtain ⟨⟨l, n', t', x'⟩, l1, l2, rfl, hz, h⟩ := M.runs_bind h
    dsimp only at h
    split at h
    · rename_i hc
      obtain ⟨hX, hself, hrN⟩ := hc
      obtain ⟨⟨y, src⟩, l3, l4, rfl, hv, h⟩ := M.runs_bind h
      obtain ⟨u', l5, l6, rfl, hm, h⟩ := M.runs_bind h
      have hups : ups = (r, u') :: (src.toList.map (fun s => (s, V.dead)) ++ depsU r (T.getD r .dead) src 0 T) ∧ depsOk r (T.getD r .dead) src 0 T = true := by
        cases hfl : (!(T.getD r .dead).deep && src.isNone) with
        | false =>
          rw [hfl] at h
          dsimp only [cond_false] at h
          split at h
          · rename_i ks
            obtain ⟨hbox, h⟩ := h
            obtain ⟨hbare, _, h⟩ := bareM_runs h
            obtain ⟨rfl, _⟩ := h
            obtain ⟨e1, e2⟩ := deps_none (r := r) (root := T.getD r .dead) (src := src) (i := 0) (l := T) (fun s hs hr hn => by
              rw [Nat.zero_add] at hr hn
              have hd : (T.getD s .dead).deepOn r = false := by
                cases hsrc : src with
                | none =>
                  rw [hsrc] at hbare
                  exact hbare s hr
                | some s0 =>
                  rw [hsrc] at hbare hn
                  exact hbare s (fun e => hn (by rw [e]; rfl))
              unfold V.deepOn at hd
              rw [hs, Bool.true_and] at hd
              have hnd : (T.getD r .dead).isD = false := by
                generalize T.getD r .dead = u at hbox
                cases u <;> simp [V.boxy, V.isD] at hbox ⊢
              generalize T.getD s .dead = v at hd
              cases v with
              | ptr r2 p2 t2 =>
                simp only [keepable, hnd, Bool.not_false, Bool.and_true, Bool.or_eq_true]
                exact .inr (by simpa using hd)
              | _ => simp at hd)
            rw [e1, e2, List.append_nil]
            exact ⟨rfl, rfl⟩
          · obtain ⟨Ts, l7, l8, rfl, hall, h⟩ := M.runs_bind h
            obtain ⟨hdok, rfl, _⟩ := h
            have hTs : Ts = T := by rw [allM_runs hall (by rw [Nat.zero_add, hI.len])]; rfl
            subst hTs
            exact ⟨rfl, hdok⟩
        | true =>
          rw [hfl] at h
          obtain ⟨rfl, _⟩ := h
          simp only [Bool.and_eq_true, Bool.not_eq_true', Option.isNone_iff_eq_none] at hfl
          obtain ⟨hdeep, rfl⟩ := hfl
          have hbx : ∀ A, a.tmps.getD r undef = .tuple A → False := by
            intro A hA
            have hsr := hI.slots r
            rw [hA] at hsr
            generalize T.getD r .dead = u at hsr hz hdeep
            cases u with
            | box l2 n t x => obtain ⟨_, _, _, _, h1, _⟩ := hsr; cases h1
            | d l2 n t x =>
              simp only [rootD] at hz
              split at hz
              · obtain ⟨z, m1, m2, rfl, z1, z2⟩ := M.runs_bind hz
                cases n with
                | zero => cases t <;> simp only [getP] at z1 <;> exact z1.elim
                | succ n =>
                  cases t with
                  | slice e t => simp [V.deep, Ty.depth] at hdeep
                  | _ => simp only [getP] at z1; exact z1.elim
              · exact hz.elim
            | dead => exact hz.elim
            | tup _ => exact hz.elim
            | rp _ _ _ => exact hz.elim
            | ptr _ _ _ => exact hz.elim
            | view _ _ _ => exact hz.elim
            | hole _ _ => exact hz.elim
            | part _ _ _ _ _ => exact hz.elim
          obtain ⟨e1, e2⟩ := deps_none (r := r) (root := T.getD r .dead) (src := none) (i := 0) (l := T) (fun s hs _ _ => flat_keep hI hdeep hbx s hs)
          rw [e1, e2]
          exact ⟨rfl, rfl⟩
      obtain ⟨rfl, hdok⟩ := hups
      generalize hTs : T = Ts at *
      obtain ⟨hb, hlend, _, howns, hisd⟩ := rootD_inB hz (hI.slots r)
      obtain ⟨g', cur, e, k1, k2, k3, k4⟩ := hb
      obtain rfl := hI.inj g g' r _ hg k1
      -- the value
      have hval : ∃ cs, Form t' cs (a.eval x) ∧ (∀ v ∈ cs, v.oneCell' = true) ∧ cs.length = t'.sz ∧ (∀ s, src = some s → s ≠ r ∧ s ∉ vs ∧ ∃ k y, n' ≠ 0 ∧ k ≠ 0 ∧ t'.depth ≠ 0 ∧ Ts.getD s .dead = .d none k t' y) ∧
          (∀ (L' : Nat → Lab) (w' : World) (u : V) q o', (∀ k, L k = .stable → L' k = .stable ∧ w'.heap[k]? = w.heap[k]?) →
            (∀ s k z i, src = some s → L k = .own s (i :: z) → i < t'.sz → w'.heap[k]? = w.heap[k]? ∧ (z.length < n' → L' k = .own r (q ++ (o' + i) :: z)) ∧ (n' ≤ z.length → L' k = .stable)) →
            Own w' L' (SL L' u.root) r n' t' y q o' cs) := by
        obtain ⟨v, m1, m2, rfl, hv1, hv2⟩ := M.runs_bind hv
        split at hv2
        · rename_i k tv y0
          split at hv2
          · rename_i htv
            subst htv
            have hrep : ∃ s0, SRep L Ts a.tmps s0 (.d none k tv y0) w (a.eval x) ∧ (∀ s, x = .tmp s → s0 = s ∧ Ts.getD s .dead = .d none k tv y0) ∧ ((∀ s, x ≠ .tmp s) → ∀ L T tm s w, SRep L T tm s (.d none k tv y0) w (a.eval x)) := by
              rcases opnd_rep hI hv1 with ⟨s, rfl, hv, hs⟩ | ⟨_, hs⟩
              · exact ⟨s, hs, fun s' he => by cases he; exact ⟨rfl, hv.symm⟩, fun h => absurd rfl (h s)⟩
              · cases x with
                | tmp s =>
                  obtain ⟨_, _, hv, _⟩ := hv1
                  refine ⟨s, ?_, fun s' he => by cases he; exact ⟨rfl, hv.symm⟩, fun h => absurd rfl (h s)⟩
                  rw [hv]
                  exact hI.slots s
                | const c => exact ⟨0, hs _ _ _ _ _, fun s' he => (by cases he), fun _ => hs⟩
                | func c => exact ⟨0, hs _ _ _ _ _, fun s' he => (by cases he), fun _ => hs⟩
                | global c => exact hv1.elim
            obtain ⟨s0, ⟨_, cs, hf, how⟩, hx, hx2⟩ := hrep
            have hstab : ∀ {L' : Nat → Lab} {w' : World} {u : V}, (∀ k, L k = .stable → L' k = .stable ∧ w'.heap[k]? = w.heap[k]?) → ∀ k, SL L none k → SL L' u.root k ∧ w'.heap[k]? = w.heap[k]? := by
              intro L' w' u H k hk
              rcases hk with hk | ⟨_, _, hk, _⟩
              · exact ⟨.inl (H k hk).1, (H k hk).2⟩
              · cases hk
            refine ⟨cs, hf, Own.one how, Own.len how, ?_⟩
            split at hv2
            · rename_i hd
              obtain ⟨hv2, _⟩ := hv2
              cases hv2
              refine ⟨fun s hs => (by cases hs), fun L' w' u q o' H1 _ => ?_⟩
              rcases hd with hd | ⟨rfl, rfl⟩
              · exact Own.flat hd how
              · exact Own.of_rd (Rd.move (hstab H1) (Own.rd0 how))
            · rename_i hd
              cases x with
              | tmp s =>
                dsimp only at hv2
                split at hv2
                · rename_i hcc
                  obtain ⟨hv2, _⟩ := hv2
                  cases hv2
                  obtain ⟨c1, c2, ck, c3, c4⟩ := hcc
                  obtain ⟨rfl, hT⟩ := hx s rfl
                  refine ⟨fun s' hs => ?_, fun L' w' u q o' H1 H2 => ?_⟩
                  · injection hs with hs
                    subst hs
                    exact ⟨c4, fun hm => (by rw [List.contains_iff_mem.2 hm] at c3; cases c3), k, _, c1, ck, fun h => hd (.inl h), hT⟩
                  · obtain ⟨k9, c9, how9⟩ := Own.atLeast c2 how
                    refine Own.moveLow c9 (hstab H1) (fun k d rest hdd hk => ?_) how9
                    have hk' : L k = .own s0 (d :: rest) := by simpa using hk
                    have := H2 s0 k rest d rfl hk' hdd
                    exact ⟨this.1, this.2.1, fun h => .inl (this.2.2 h)⟩
                · exact hv2.elim
              | const c =>
                dsimp only at hv2
                split at hv2
                · rename_i hnk
                  obtain ⟨hv2, _⟩ := hv2
                  cases hv2
                  refine ⟨fun s hs => (by cases hs), fun L' w' u q o' H1 _ => ?_⟩
                  obtain ⟨_, cs', hf', how'⟩ := hx2 (by simp) (fun _ => .free) [] #[] 0 w
                  have hcs : cs' = cs := by
                    have e1 := Form.cells hf' (Own.one how')
                    have e2 := Form.cells hf (Own.one how)
                    exact e1.symm.trans e2
                  subst hcs
                  refine Own.moveLow hnk (fun k hk => absurd hk SL_free) (fun k d rest _ hk => by cases hk) how'
                · exact hv2.elim
              | func f => exact hv2.elim
              | global g => exact hv2.elim
          · exact hv2.elim
        · exact hv2.elim
      obtain ⟨cs, hf, hone, hlen, hsrc, hown⟩ := hval
      have hrun : (execOp a.eval o).run P w = .ok .skip (w.setRow g (putCells cur (node [] 0 p).2 cs)) := by
        simp [execOp, ho, hev, run_store_cells (hC X t' hX) k2 hf hone hlen k3]
      have hsr : src ≠ some r := fun e => (hsrc r e).1 rfl
      have hlenT : (setAll Ts ((r, u') :: (src.toList.map (fun s => (s, V.dead)) ++ depsU r (Ts.getD r .dead) src 0 Ts))).length = N := by rw [length_setAll, hI.len]
      have hsN : ∀ s, src = some s → s < N := by
        intro s hs
        obtain ⟨_, _, k, y', _, _, _, hT⟩ := hsrc s hs
        rcases Nat.lt_or_ge s N with h | h
        · exact h
        · rw [getD_out (by rw [hI.len]; exact h)] at hT; cases hT
      have hkeys : ∀ s v, (s, v) ∈ ((r, u') :: (src.toList.map (fun s => (s, V.dead)) ++ depsU r (Ts.getD r .dead) src 0 Ts)) → (s = r ∧ v = u') ∨ (src = some s ∧ v = .dead) ∨ (v = .dead ∧ ((Ts.getD s .dead).on r && s != r && src != some s && !keepable (Ts.getD r .dead) src (Ts.getD s .dead)) = true) := by
        intro s v hm
        rcases List.mem_cons.1 hm with hm | hm
        · injection hm with h1 h2
          exact .inl ⟨h1, h2⟩
        · rcases List.mem_append.1 hm with hm | hm
          · obtain ⟨s', hs', he⟩ := List.mem_map.1 hm
            injection he with h1 h2
            subst h1
            exact .inr (.inl ⟨by simpa using hs', h2.symm⟩)
          · obtain ⟨h1, _, _, h2⟩ := (depsU_mem s v).1 hm
            exact .inr (.inr ⟨h1, by simpa using h2⟩)
      intro K Q hK
      unfold Oper.wp
      rw [hrun, Oper.upon_skip, hdst]
      refine hK a _ _ (Inv.store (m := n') (src := src) hI rfl hz hm (by simpa using hself) hg k2 k3 hlen ?_ hlenT ?_ ?_ ?_ ?_)
      · intro s hs
        obtain ⟨h1, h2, k, y', h3, h4, h5, h6⟩ := hsrc s hs
        refine ⟨h1, h2, ?_, by rw [h6]; rfl⟩
        refine getD_setAll_mem (by rw [hI.len]; exact hsN s hs) ?_ (fun v hm => ?_)
        · simp [hs]
        · rcases hkeys s v hm with ⟨h, _⟩ | ⟨_, h⟩ | ⟨h, _⟩
          · exact absurd h h1
          · exact h
          · exact h
      · refine getD_setAll_mem (by rw [hI.len]; exact hrN) (by simp) (fun v hm => ?_)
        rcases hkeys r v hm with ⟨_, h⟩ | ⟨h, _⟩ | ⟨_, h⟩
        · exact h
        · exact absurd h hsr
        · simp at h
      · intro s hs hs2 hon
        have hslt : s < N := by
          rcases Nat.lt_or_ge s N with h | h
          · exact h
          · rw [getD_out (by rw [hI.len]; exact h)] at hon; simp [V.on, V.root] at hon
        cases hk : keepable (Ts.getD r .dead) src (Ts.getD s .dead) with
        | true =>
          refine .inr ⟨getD_setAll _ _ _ (fun hm => ?_), Or.inl rfl⟩
          obtain ⟨u, hu, he⟩ := List.mem_map.1 hm
          rcases hkeys s u.2 (by rw [← he]; exact hu) with ⟨h, _⟩ | ⟨h, _⟩ | ⟨_, h⟩
          · exact hs h
          · exact hs2 h
          · rw [hk] at h; simp at h
        | false =>
          have hc : ((Ts.getD s .dead).on r && s != r && src != some s && !keepable (Ts.getD r .dead) src (Ts.getD s .dead)) = true := by
            rw [hon, hk]
            simp only [Bool.and_eq_true, bne_iff_ne, Bool.not_false, and_true, true_and]
            exact ⟨hs, hs2⟩
          refine .inl ⟨getD_setAll_mem (by rw [hI.len]; exact hslt) ?_ (fun v hm => ?_), ?_⟩
          · rw [List.mem_map]
            exact ⟨(s, .dead), by
              refine List.mem_cons_of_mem _ (List.mem_append_right _ ((depsU_mem s .dead).2 ⟨rfl, Nat.zero_le _, ?_, ?_⟩))
              · rw [Nat.zero_add, hI.len]; exact hslt
              · simpa using hc, rfl⟩
          · rcases hkeys s v hm with ⟨h, _⟩ | ⟨h, _⟩ | ⟨h, _⟩
            · exact absurd h hs
            · exact absurd h hs2
            · exact h
          · exact depsOk_spec hdok s (by rw [hI.len]; exact hslt) (by simpa using hc)
      · intro s hs hs2 hon
        refine getD_setAll _ _ _ (fun hm => ?_)
        obtain ⟨u, hu, he⟩ := List.mem_map.1 hm
        rcases hkeys s u.2 (by rw [← he]; exact hu) with ⟨h, _⟩ | ⟨h, _⟩ | ⟨_, h⟩
        · exact hs h
        · exact hs2 h
        · rw [hon] at h; simp at h
      · refine hown _ _ _ _ _ (fun k hk => ⟨newLab_stable hI hk, setRow_other w g k _ (by rintro rfl; rw [hg] at hk; cases hk)⟩) (fun s k z i hs hk hi => ?_)
        have hne := (hsrc s hs).1
        have hlab : newLab (stF r (node [] 0 p).1 (node [] 0 p).2 t'.sz n' src) w L (fun _ => .free) k = if z.length < n' then .own r ((node [] 0 p).1 ++ ((node [] 0 p).2 + i) :: z) else .stable := by
          rw [newLab_old hI (by rw [hk]; simp), hk]
          simp only [relab, stF]
          rw [if_neg hne, if_pos hs, if_pos hi]
        refine ⟨setRow_other w g k _ (by rintro rfl; rw [hg] at hk; injection hk with hk _; exact hne hk.symm), fun h => by rw [hlab, if_pos h], fun h => by rw [hlab, if_neg (by omega)]⟩
    · exact h.elim

end
end Go.Proofs.Ytdfcejijcnhcaaa.D.Am

set_option linter.unusedVariables false
set_option linter.unusedSimpArgs false
namespace Go.Proofs.Ytdfcejijcnhcaaa.D.Am

/-! ## 26. Moves and assignments -/
/-- The program run on slots that are known. -/
def M.onT {α : Type} (T : List V) : M α → M α
  | .ret a => .ret a
  | .fail => .fail
  | .get s k => (k (T.getD s .dead)).onT T
  | .bnd t m k => .bnd t m fun x => (k x).onT T
  | .chk b k => .chk b (k.onT T)
  | .ask q k => .chk (askOk q T && decide (tagK ≤ q)) (k.onT T)

theorem M.onT_runs {α : Type} {T T' : List V} : {m : M α} → {a : α} → {log : List Nat} → (m.onT T').Runs T a log → ∃ log', m.Runs T' a log'
  | .ret _, _, _, h => ⟨[], h.1, rfl⟩
  | .fail, _, _, h => h.elim
  | .get s k, a, log, h => by
    obtain ⟨log', h⟩ := M.onT_runs (m := k _) h
    exact ⟨s :: log', log', rfl, h⟩
  | .bnd t m k, a, log, h => by
    obtain ⟨x, hm, h⟩ := h
    obtain ⟨log', h⟩ := M.onT_runs (m := k x) h
    exact ⟨log', x, hm, h⟩
  | .chk c k, a, log, h => by
    obtain ⟨hc, h⟩ := h
    obtain ⟨log', h⟩ := M.onT_runs (m := k) h
    exact ⟨log', hc, h⟩
  | .ask q k, a, log, h => by
    obtain ⟨hc, h⟩ := h
    obtain ⟨log', h⟩ := M.onT_runs (m := k) h
    simp only [Bool.and_eq_true, decide_eq_true_eq] at hc
    exact ⟨q :: log', hc, log', rfl, h⟩

/-- Into an idle slot: what a temporary owns is moved, all else is copied. -/
def mvM (C : Ctx) (vs : List Nat) (d : Nat) (X : TypeId) (x : Operand) : M (List (Nat × V)) :=
  match x with
  | .tmp t => .get t fun v =>
      cond (v.owns && !vs.contains t && v.root.isNone && (match v with | .hole _ _ => false | _ => true)) (.ret [(t, .dead), (d, v)])
        ((copyOf t v).bind fun v' => .chk (okOn vs v') (.ret [(d, v')]))
  | x => (opnd C X x).bind fun v' => .chk (okOn vs v') (.ret [(d, v')])

/-- The slots that go with d. -/
def killD (d : Nat) : Nat → List V → List (Nat × V)
  | _, [] => []
  | i, v :: l => cond (i == d || v.on d) ((i, .dead) :: killD d (i + 1) l) (killD d (i + 1) l)

def killDOk (d : Nat) : Nat → List V → Bool
  | _, [] => true
  | i, v :: l => (i == d || !(v.on d && v.owns)) && killDOk d (i + 1) l

def assignM (C : Ctx) (vs : List Nat) (N d : Nat) (X : TypeId) (x : Operand) : M (List (Nat × V)) :=
  .get d fun vd => .chk (decide (d < N)) (cond vd.owns
    ((allM 0 N).bind fun Ts => .chk (killDOk d 0 Ts) (((mvM C vs d X x).onT (setAll Ts (killD d 0 Ts))).bind fun ups => .ret (killD d 0 Ts ++ ups)))
    (mvM C vs d X x))

section
variable {P : Program} {C : Ctx} {w w' w0 : World} {S S' : Nat → Prop} {L L' L0 : Nat → Lab} {s N : Nat} {vs : List Nat} {T T' : List V} {tm tm' : Array Value} {a : Act}

def isMove (o : Oper) (x : Operand) : Prop := o.op = .move x ∨ o.op = .assign x

theorem run_isMove {o : Oper} {x : Operand} (h : isMove o x) : (execOp a.eval o).run P w = .ok (.value (a.eval x)) w := by
  rcases h with h | h <;> simp [execOp, h]

theorem noOn_of (hI : Inv w0 L0 N vs T a w L) {t : Nat} (h : t ∉ vs) : noOn t t T = true := by
  unfold noOn
  rw [List.all_eq_true]
  intro b hb
  obtain ⟨i, hi⟩ := List.mem_iff_getElem?.1 hb
  simp only [List.getElem?_mapIdx, Option.map_eq_some_iff] at hi
  obtain ⟨v, hv, rfl⟩ := hi
  have hgv : T.getD i .dead = v := by simp [List.getD_eq_getElem?_getD, hv]
  simp only [id_eq, Bool.or_eq_true, bne_iff_ne]
  right
  intro hr
  exact h (hI.roots i t (by rw [hgv]; simp [V.on, hr]))

theorem step_mv (hI : Inv w0 L0 N vs T a w L) {o : Oper} {x : Operand} {d : Nat} {ups : List (Nat × V)} {log : List Nat} (ho : isMove o x) (hdst : o.dst = some d) (hd : d < N) (hid : (T.getD d .dead).idle = true)
    (h : (mvM C vs d o.type x).Runs T ups log) : Step P o w0 L0 N vs (setAll T ups) a w := by
  have hcopy : ∀ {v' : V} {log : List Nat}, (moveM C o.type x).Runs T v' log → okOn vs v' = true → Step P o w0 L0 N vs (setAll T [(d, v')]) a w := by
    intro v' log h hok K Q hK
    have := move_any (P := P) (d := d) hI (run_isMove ho) hid h (okOn_mem hok)
    exact PureRes.inv hI hd hid hdst this hK
  have hother : (∀ t, x ≠ .tmp t) → ((opnd C o.type x).bind fun v' => M.chk (okOn vs v') (.ret [(d, v')])).Runs T ups log → Step P o w0 L0 N vs (setAll T ups) a w := by
    intro hx h
    obtain ⟨v', l1, l2, rfl, h1, h2⟩ := M.runs_bind h
    obtain ⟨hok, rfl, _⟩ := h2
    refine hcopy (log := l1) ?_ hok
    cases x with
    | tmp t => exact absurd rfl (hx t)
    | const c => exact h1
    | func c => exact h1
    | global c => exact h1
  cases x with
  | const c => exact hother (by simp) h
  | func c => exact hother (by simp) h
  | global c => exact hother (by simp) h
  | tmp t =>
    obtain ⟨log', rfl, h⟩ := h
    dsimp only at h
    cases hc : ((T.getD t .dead).owns && !vs.contains t && (T.getD t .dead).root.isNone && (match T.getD t .dead with | .hole _ _ => false | _ => true)) with
    | true =>
      rw [hc] at h
      obtain ⟨rfl, _⟩ := h
      simp only [Bool.and_eq_true, Bool.not_eq_true'] at hc
      obtain ⟨⟨⟨h1, h2⟩, h3⟩, h4⟩ := hc
      have htv : t ∉ vs := fun hm => by rw [List.contains_iff_mem.2 hm] at h2; cases h2
      have hroot : (T.getD t .dead).root = none := by simpa using h3
      obtain ⟨L', hI'⟩ := Inv.moveTo hI (t := t) (d := d) rfl h1 (fun u p e => by rw [e] at h4; cases h4) (fun r i n t x e => by rw [e] at hroot; cases hroot) hd hid (noOn_of hI htv) (by rw [hroot]; simp) (by rw [hroot]; simp)
      exact Step.value hdst (run_isMove ho) hI'
    | false =>
      rw [hc] at h
      obtain ⟨v', l1, l2, rfl, h1, h2⟩ := M.runs_bind h
      obtain ⟨hok, rfl, _⟩ := h2
      exact hcopy (log := t :: l1) ⟨l1, rfl, h1⟩ hok

theorem killD_mem {d : Nat} : {i : Nat} → {l : List V} → (s : Nat) → (v : V) → ((s, v) ∈ killD d i l ↔ v = .dead ∧ i ≤ s ∧ s < i + l.length ∧ (s = d ∨ (l.getD (s - i) .dead).on d = true))
  | i, [], s, v => by simp [killD]; omega
  | i, v0 :: l, s, v => by
    have ih := killD_mem (d := d) (i := i + 1) (l := l) s v
    have hsh : i + 1 ≤ s → (v0 :: l).getD (s - i) .dead = l.getD (s - (i + 1)) .dead := fun h => by
      rw [show s - i = (s - (i + 1)) + 1 by omega, List.getD_cons_succ]
    simp only [killD]
    cases hc : (i == d || v0.on d) with
    | true =>
      simp only [cond_true, List.mem_cons, Prod.mk.injEq, ih, List.length_cons]
      constructor
      · rintro (⟨rfl, rfl⟩ | ⟨h1, h2, h3, h4⟩)
        · refine ⟨rfl, Nat.le_refl _, by omega, ?_⟩
          rw [Nat.sub_self, List.getD_cons_zero]
          simpa using hc
        · refine ⟨h1, by omega, by omega, ?_⟩
          rw [hsh h2]
          exact h4
      · rintro ⟨h1, h2, h3, h4⟩
        by_cases hs : s = i
        · exact .inl ⟨hs, h1⟩
        · refine .inr ⟨h1, by omega, by omega, ?_⟩
          rw [← hsh (by omega)]
          exact h4
    | false =>
      simp only [cond_false, ih, List.length_cons]
      constructor
      · rintro ⟨h1, h2, h3, h4⟩
        refine ⟨h1, by omega, by omega, ?_⟩
        rw [hsh h2]
        exact h4
      · rintro ⟨h1, h2, h3, h4⟩
        by_cases hs : s = i
        · subst hs
          rw [Nat.sub_self, List.getD_cons_zero] at h4
          simp only [Bool.or_eq_false_iff, beq_eq_false_iff_ne] at hc
          rcases h4 with h4 | h4
          · exact absurd h4 hc.1
          · rw [hc.2] at h4; cases h4
        · refine ⟨h1, by omega, by omega, ?_⟩
          rw [← hsh (by omega)]
          exact h4

theorem killDOk_spec {d : Nat} : {i : Nat} → {l : List V} → killDOk d i l = true → ∀ s, i + s ≠ d → (l.getD s .dead).on d = true → (l.getD s .dead).owns = false
  | _, [], _, s, _, h => by simp [V.on, V.root] at h
  | i, v0 :: l, h, s, hs, hc => by
    simp only [killDOk, Bool.and_eq_true, Bool.or_eq_true, Bool.not_eq_true', beq_iff_eq] at h
    cases s with
    | zero =>
      simp only [List.getD_cons_zero] at hc ⊢
      have := h.1.resolve_left (by simpa using hs)
      rw [hc, Bool.true_and] at this
      exact this
    | succ s =>
      simp only [List.getD_cons_succ] at hc ⊢
      exact killDOk_spec h.2 s (by omega) hc

theorem killD_get (hl : T.length = N) {d : Nat} (hd : d < N) (s : Nat) : (setAll T (killD d 0 T)).getD s .dead = if (s == d || (T.getD s .dead).on d) = true then .dead else T.getD s .dead := by
  split
  · rename_i hc
    by_cases hs : s < N
    · refine getD_setAll_mem (by rw [hl]; exact hs) (List.mem_map.2 ⟨(s, .dead), (killD_mem s .dead).2 ⟨rfl, Nat.zero_le _, by rw [Nat.zero_add, hl]; exact hs, ?_⟩, rfl⟩) (fun v hm => ((killD_mem s v).1 hm).1)
      simpa using hc
    · exact getD_out (by rw [length_setAll, hl]; omega)
  · rename_i hc
    refine getD_setAll _ _ _ (fun hm => hc ?_)
    obtain ⟨u, hu, he⟩ := List.mem_map.1 hm
    have := ((killD_mem s u.2).1 (by rw [← he]; exact hu)).2.2.2
    simpa using this

theorem step_assign (hI : Inv w0 L0 N vs T a w L) {o : Oper} {x : Operand} {d : Nat} {ups : List (Nat × V)} {log : List Nat} (ho : isMove o x) (hdst : o.dst = some d)
    (h : (assignM C vs N d o.type x).Runs T ups log) : Step P o w0 L0 N vs (setAll T ups) a w := by
  obtain ⟨log0, rfl, hd, h⟩ := h
  have hd : d < N := by simpa using hd
  cases hown : (T.getD d .dead).owns with
  | false =>
    rw [hown] at h
    exact step_mv hI ho hdst hd (by rw [V.idle, hown]; rfl) h
  | true =>
    rw [hown] at h
    obtain ⟨Ts, l1, l2, rfl, hall, hk, h⟩ := M.runs_bind h
    have hTs : Ts = T := by rw [allM_runs hall (by rw [Nat.zero_add, hI.len])]; rfl
    subst hTs
    obtain ⟨ups2, l3, l4, rfl, h1, h2⟩ := M.runs_bind h
    obtain ⟨rfl, _⟩ := h2
    obtain ⟨log', h1⟩ := M.onT_runs h1
    have hI1 := Inv.kill hI (T' := setAll Ts (killD d 0 Ts)) (fun s => s == d || (Ts.getD s .dead).on d) (by rw [length_setAll, hI.len]) (fun s => killD_get hI.len hd s) (fun s r hs ho1 ho2 => by
      simp only [Bool.or_eq_false_iff, beq_eq_false_iff_ne] at hs ⊢
      refine ⟨fun e => ?_, ?_⟩
      · subst e; rw [hs.2] at ho1; cases ho1
      · cases hr : (Ts.getD r .dead).on d with
        | false => rfl
        | true =>
          by_cases hrd : r = d
          · subst hrd; rw [hs.2] at ho1; cases ho1
          · rw [killDOk_spec hk r (by simpa using hrd) hr] at ho2; cases ho2)
    rw [setAll_append]
    refine step_mv hI1 ho hdst hd ?_ h1
    rw [killD_get hI.len hd, if_pos (by simp)]
    rfl

end
end Go.Proofs.Ytdfcejijcnhcaaa.D.Am

set_option linter.unusedVariables false
set_option linter.unusedSimpArgs false
namespace Go.Proofs.Ytdfcejijcnhcaaa.D.Am

/-! ## 27. Functions and their contracts -/
inductive Mode where
  | ro
  | mut (n : Nat)

def Mode.dep : Mode → Nat
  | .ro => 0
  | .mut n => n

def pTy : List (Ty × Mode) → Ty
  | [] => .unit
  | p :: l => .pair p.1 (pTy l)

def mTy : List (Ty × Mode) → Ty
  | [] => .unit
  | (t, .mut _) :: l => .pair t (mTy l)
  | (_, .ro) :: l => mTy l

def rTy : List (Ty × Nat) → Ty
  | [] => .unit
  | p :: l => .pair p.1 (rTy l)

/-- A function: what it takes, what it gives (and how much of that is the caller's own), what it computes. -/
structure Fn where
  ps : List (Ty × Mode)
  rs : List (Ty × Nat)
  sem : (pTy ps).den → Option (Ty.pair (rTy rs) (mTy ps)).den

def ArgsRep (w : World) (L0 : Nat → Lab) : Nat → (ps : List (Ty × Mode)) → (pTy ps).den → List Value → Prop
  | _, [], _, cs => cs = []
  | i, (t, m) :: ps, x, cs => ∃ c cs' cells, cs = c :: cs' ∧ Form t cells c ∧ Own w L0 (fun k => L0 k = .stable) i m.dep t x.1 [] 0 cells ∧ ArgsRep w L0 (i + 1) ps x.2 cs'

def MutRep (w : World) (L0 : Nat → Lab) : Nat → (ps : List (Ty × Mode)) → (mTy ps).den → List Value → Prop
  | _, [], _, cs => cs = []
  | i, (t, .mut n) :: ps, x, cs => ∃ c cs' cells, cs = c :: cs' ∧ Form t cells c ∧ Own w L0 (fun k => L0 k = .stable) i n t x.1 [] 0 cells ∧ MutRep w L0 (i + 1) ps x.2 cs'
  | i, (_, .ro) :: ps, x, cs => ∃ c cs', cs = c :: cs' ∧ MutRep w L0 (i + 1) ps x cs'

def ResRep (w : World) (L0 : Nat → Lab) (m : Nat) : Nat → (rs : List (Ty × Nat)) → (rTy rs).den → List Value → Prop
  | _, [], _, cs => cs = []
  | o, (t, n) :: rs, x, cs => ∃ c cs' cells, cs = c :: cs' ∧ Form t cells c ∧ Own w L0 (fun k => L0 k = .stable) m n t x.1 [] o cells ∧ ResRep w L0 m (o + t.sz) rs x.2 cs'

def resVal : List Value → Value
  | [v] => v
  | l => .tuple l.toArray

structure Legit (w : World) (L0 : Nat → Lab) (ps : List (Ty × Mode)) : Prop where
  free : ∀ k, w.heap.size ≤ k → L0 k = .free
  inj : ∀ k k' s q, L0 k = .own s q → L0 k' = .own s q → k = k'
  owner : ∀ k s q, L0 k = .own s q → ∃ t n, ps[s]? = some (t, .mut n) ∧ n ≠ 0 ∧ t.depth ≠ 0

structure Left (w w' : World) (L0 L' : Nat → Lab) (ps : List (Ty × Mode)) (rs : List (Ty × Nat)) : Prop where
  os : w'.os = w.os
  tape : w'.tape = w.tape
  output : w'.output = w.output
  size : w.heap.size ≤ w'.heap.size
  keep : ∀ k, k < w.heap.size → (L0 k = .stable ∨ L0 k = .other) → L' k = L0 k ∧ w'.heap[k]? = w.heap[k]?
  free : ∀ k, w'.heap.size ≤ k → L' k = .free
  inj : ∀ k k' s q, L' k = .own s q → L' k' = .own s q → k = k'
  owner : ∀ k s q, L' k = .own s q → (s = ps.length ∧ ∃ t n, (t, n) ∈ rs ∧ n ≠ 0 ∧ t.depth ≠ 0) ∨ ∃ t n, ps[s]? = some (t, .mut n)

def FnOk (P : Program) (f : FuncId) (F : Fn) : Prop :=
  (∃ fn, P.funcs[f]? = some fn ∧ (fn.name == "runtime.NumGoroutine") = false ∧ fn.body.isNone = false) ∧
  ∀ x r, F.sem x = some r → ∀ (w : World) (L0 : Nat → Lab) (args : Array Value), Legit w L0 F.ps → ArgsRep w L0 0 F.ps x args.toList →
    Calls P f args w (fun e w' => ∃ cs L', e = .returned (resVal cs) ∧ Left w w' L0 L' F.ps F.rs ∧ ResRep w' L' F.ps.length 0 F.rs r.1 cs ∧ MutRep w' L' 0 F.ps r.2 args.toList)

/-! ### a call, from the caller's side -/
/-- An argument that is read. -/
def argM (C : Ctx) (t : Ty) (x : Operand) : M (t.den × List Nat) :=
  match x with
  | .tmp s => .get s fun v => (readD s v).bind fun z => if h : z.2.1 = t then .ret (h ▸ z.2.2, if t.depth = 0 then [] else z.1.toList) else .fail
  | .const c => (constM C 0 c).bind fun v => match v with
    | .d none _ t' y => if h : t' = t then .ret (h ▸ y, []) else .fail
    | _ => .fail
  | _ => .fail

/-- An argument that is written: the slot that owns it. -/
def mutM (t : Ty) (n : Nat) (x : Operand) : M (t.den × Nat) :=
  match x with
  | .tmp s => .get s fun v => match v with
    | .view r [] _ => .get r fun u => match u with
      | .d none n' t' y => if h : t' = t then (if n' = n ∧ t.depth ≤ n ∧ t.depth ≠ 0 then .ret (h ▸ y, r) else .fail) else .fail
      | _ => .fail
    | .d none n' t' y => if h : t' = t then (if n' = n ∧ t.depth ≤ n ∧ t.depth ≠ 0 then .ret (h ▸ y, s) else .fail) else .fail
    | _ => .fail
  | _ => .fail

/-- All arguments: data, lenders, (owner, which parameter). -/
structure Args (ps : List (Ty × Mode)) where
  x : (pTy ps).den
  ls : List Nat
  mu : List (Nat × Nat)

def argsM (C : Ctx) : Nat → (ps : List (Ty × Mode)) → List Operand → M (Args ps)
  | _, [], [] => .ret ⟨(), [], []⟩
  | i, (t, .ro) :: ps, x :: xs => (argM C t x).bind fun y => (argsM C (i + 1) ps xs).bind fun r => .ret ⟨(y.1, r.x), y.2 ++ r.ls, r.mu⟩
  | i, (t, .mut n) :: ps, x :: xs => (mutM t n x).bind fun y => (argsM C (i + 1) ps xs).bind fun r => .ret ⟨(y.1, r.x), r.ls, (y.2, i) :: r.mu⟩
  | _, _, _ => .fail

section
variable {P : Program} {C : Ctx} {w w' w0 : World} {S S' : Nat → Prop} {L L' L0 : Nat → Lab} {s N : Nat} {vs : List Nat} {T T' : List V} {tm tm' : Array Value} {a : Act}

/-- What is owned to the ground reads nothing else. -/
theorem Own.full : {n : Nat} → {t : Ty} → {x : t.den} → {q : List Nat} → {o : Nat} → {cs : List Value} → t.depth ≤ n → Own w L S s n t x q o cs → Own w L S' s n t x q o cs
  | _, .int _, _, _, _, _, _, h => by simpa only [Own] using h
  | _, .bool, _, _, _, _, _, h => by simpa only [Own] using h
  | _, .str, _, _, _, _, _, h => by simpa only [Own] using h
  | _, .raw _, _, _, _, _, _, h => by simpa only [Own] using h
  | _, .unit, _, _, _, _, _, h => by simpa only [Own] using h
  | _, .pair a b, _, _, _, _, hd, h => by
    simp only [Own, Ty.depth] at h hd ⊢
    obtain ⟨c0, c1, rfl, h0, h1⟩ := h
    exact ⟨c0, c1, rfl, Own.full (by omega) h0, Own.full (by omega) h1⟩
  | _, .agg t, _, _, _, _, hd, h => by simp only [Own, Ty.depth] at h hd ⊢; exact Own.full (t := t) hd h
  | 0, .slice _ _, _, _, _, _, hd, h => by simp [Ty.depth] at hd
  | n + 1, .slice e t, xs, _, _, _, hd, h => by
    simp only [Own, Ty.depth] at h hd ⊢
    rcases h with h | ⟨g, cap, cur, h1, h2, h3, h4, h5, h6, h7⟩
    · exact .inl h
    · exact .inr ⟨g, cap, cur, h1, h2, h3, h4, h5, h6, fun j hj => Own.full (by omega) (h7 j hj)⟩

/-- How the caller's blocks are labelled for the callee. -/
def toCallee (mu : Option (Nat × Nat)) (ls : List Nat) : Lab → Lab
  | .own s q => match mu with
    | some (r, i) => if s = r then .own i q else if ls.contains s then .stable else .other
    | none => if ls.contains s then .stable else .other
  | x => x

/-- And back: m is the slot of the results. -/
def fromCallee (mu : Option (Nat × Nat)) (m d : Nat) : Lab → Lab
  | .own i q => if i = m then .own d q else match mu with
    | some (r, _) => .own r q
    | none => .other
  | x => x

def backLab (mu : Option (Nat × Nat)) (m d : Nat) (L L' : Nat → Lab) : Nat → Lab := fun k => match L k with
  | .free => fromCallee mu m d (L' k)
  | .own s q => if mu.map (·.1) = some s then fromCallee mu m d (L' k) else .own s q
  | x => x

theorem toCallee_own {mu : Option (Nat × Nat)} {ls : List Nat} {l : Lab} {i : Nat} {q : List Nat} (h : toCallee mu ls l = .own i q) : ∃ r, mu = some (r, i) ∧ l = .own r q := by
  cases l with
  | own s q' =>
    unfold toCallee at h
    cases mu with
    | none => dsimp only at h; split at h <;> cases h
    | some p =>
      obtain ⟨r, i'⟩ := p
      dsimp only at h
      split at h
      · rename_i hs
        injection h with h1 h2
        exact ⟨r, by rw [h1], by rw [hs, h2]⟩
      · split at h <;> cases h
  | stable => cases h
  | free => cases h
  | other => cases h

theorem argM_rep (hI : Inv w0 L0 N vs T a w L) {t : Ty} {x : Operand} {y : t.den} {ls : List Nat} {log : List Nat} (h : (argM C t x).Runs T (y, ls) log) :
    ∃ cells, Form t cells (a.eval x) ∧ (∀ r ∈ ls, (T.getD r .dead).deep = true) ∧ ∀ (S : Nat → Prop), (∀ k, L k = .stable → S k) → (∀ k r q, r ∈ ls → L k = .own r q → S k) → Rd w S t y cells := by
  unfold argM at h
  split at h
  · rename_i s
    obtain ⟨log', rfl, h⟩ := h
    obtain ⟨⟨l, t', y'⟩, l1, l2, rfl, h1, h2⟩ := M.runs_bind h
    dsimp only at h2
    split at h2
    · rename_i ht
      subst ht
      obtain ⟨h2, _⟩ := h2
      injection h2 with h2 h3
      subst h2 h3
      obtain ⟨cells, hf, hrd, hdp⟩ := readD_rd hI h1 (hI.slots s) (fun _ => rfl)
      refine ⟨cells, hf, fun r hr => ?_, fun S H1 H2 => ?_⟩
      · split at hr
        · simp at hr
        · exact hdp r (by simpa using hr)
      · by_cases hd : t'.depth = 0
        · have := Own.of_rd (L := L) (s := 0) (q := []) (o := 0) hrd
          exact Own.rd0 (Own.flat (L' := L) (S' := S) (s' := 0) (q' := []) (o' := 0) (n' := 0) hd this)
        · rw [if_neg hd] at H2
          refine Rd.move (fun k hk => ⟨?_, rfl⟩) hrd
          rcases hk with hk | ⟨r, q, hl, hk⟩
          · exact H1 k hk
          · exact H2 k r q (by simp [hl]) hk
    · exact h2.elim
  · rename_i c
    obtain ⟨v, l1, l2, rfl, h1, h2⟩ := M.runs_bind h
    split at h2
    · rename_i n t' y'
      split at h2
      · rename_i ht
        subst ht
        obtain ⟨h2, _⟩ := h2
        injection h2 with h2 h3
        subst h2 h3
        obtain ⟨⟨_, cells, hf, ho⟩, _⟩ := constM_rep (L := fun _ => .free) (T := T) (tm := a.tmps) (s := 0) (w := w) h1
        refine ⟨cells, hf, by simp, fun S _ _ => ?_⟩
        exact Own.rd0 (Own.moveLow (L' := L) (S' := S) (s' := 0) (q2 := []) (o2 := 0) (Nat.zero_le _) (fun k hk => absurd hk SL_free) (fun k d rest _ hk => by cases hk) ho)
      · exact h2.elim
    · exact h2.elim
  · exact h.elim

theorem mutM_rep (hI : Inv w0 L0 N vs T a w L) {t : Ty} {n : Nat} {x : Operand} {y : t.den} {r : Nat} {log : List Nat} (h : (mutM t n x).Runs T (y, r) log) :
    T.getD r .dead = .d none n t y ∧ t.depth ≤ n ∧ t.depth ≠ 0 ∧ a.eval x = a.tmps.getD r undef := by
  unfold mutM at h
  split at h
  · rename_i s
    obtain ⟨log', rfl, h⟩ := h
    have hs := hI.slots s
    generalize hv : T.getD s .dead = v at h hs
    dsimp only at h
    split at h
    · rename_i r' t2
      obtain ⟨log2, rfl, h⟩ := h
      dsimp only at h
      split at h
      · rename_i n' t' y' hu
        split at h
        · rename_i ht
          subst ht
          split at h
          · rename_i hc
            obtain ⟨rfl, hn, hd⟩ := hc
            obtain ⟨h, _⟩ := h
            injection h with h1 h2
            subst h1 h2
            refine ⟨hu, hn, hd, ?_⟩
            obtain ⟨_, h1⟩ := hs
            rcases h1 with ⟨_, h2, _⟩ | ⟨_, _, _, h2, _⟩
            · exact h2
            · rw [hu] at h2; simp [V.isD] at h2
          · exact h.elim
        · exact h.elim
      · exact h.elim
    · rename_i n' t' y'
      split at h
      · rename_i ht
        subst ht
        split at h
        · rename_i hc
          obtain ⟨rfl, hn, hd⟩ := hc
          obtain ⟨h, _⟩ := h
          injection h with h1 h2
          subst h1 h2
          exact ⟨hv, hn, hd, rfl⟩
        · exact h.elim
      · exact h.elim
    · exact h.elim
  · exact h.elim

theorem argsM_rep (hI : Inv w0 L0 N vs T a w L) : {ps : List (Ty × Mode)} → {i : Nat} → {xs : List Operand} → {A : Args ps} → {log : List Nat} → (argsM C i ps xs).Runs T A log →
    (∀ r ∈ A.ls, (T.getD r .dead).deep = true) ∧ (∀ r j, (r, j) ∈ A.mu → i ≤ j ∧ ∃ t n y, ps[j - i]? = some (t, .mut n) ∧ t.depth ≤ n ∧ t.depth ≠ 0 ∧ T.getD r .dead = .d none n t y ∧ (xs.map a.eval)[j - i]? = some (a.tmps.getD r undef)) ∧
    (∀ j t n, ps[j]? = some (t, .mut n) → ∃ r, (r, i + j) ∈ A.mu) ∧
    ∀ L1 : Nat → Lab, (∀ k, L k = .stable → L1 k = .stable) → (∀ k r q, r ∈ A.ls → L k = .own r q → L1 k = .stable) → (∀ k r j q, (r, j) ∈ A.mu → L k = .own r q → L1 k = .own j q) → ArgsRep w L1 i ps A.x (xs.map a.eval)
  | [], i, [], A, log, h => by
    obtain ⟨rfl, _⟩ := h
    exact ⟨by simp, by simp, by simp, fun _ _ _ _ => rfl⟩
  | (t, .ro) :: ps, i, x :: xs, A, log, h => by
    simp only [argsM] at h
    obtain ⟨⟨y, ls⟩, l1, l2, rfl, h1, h⟩ := M.runs_bind h
    obtain ⟨A', l3, l4, rfl, h2, h⟩ := M.runs_bind h
    obtain ⟨rfl, _⟩ := h
    obtain ⟨cells, k1, k2, k3⟩ := argM_rep hI h1
    obtain ⟨j1, j2, j4, j3⟩ := argsM_rep hI h2
    refine ⟨fun r hr => ?_, fun r j hm => ?_, fun j t' n hj => ?_, fun L1 H1 H2 H3 => ?_⟩
    · rcases List.mem_append.1 hr with hr | hr
      · exact k2 r hr
      · exact j1 r hr
    · obtain ⟨hi, t', n', y', e1, e2, e3, e4, e5⟩ := j2 r j hm
      have : j - i = (j - (i + 1)) + 1 := by omega
      refine ⟨by omega, t', n', y', by rw [this]; simpa using e1, e2, e3, e4, by rw [this]; simpa using e5⟩
    · cases j with
      | zero => simp at hj
      | succ j =>
        obtain ⟨r, hr⟩ := j4 j t' n (by simpa using hj)
        exact ⟨r, by rw [show i + (j + 1) = i + 1 + j by omega]; exact hr⟩
    · exact ⟨a.eval x, _, cells, rfl, k1, Own.of_rd (k3 _ H1 (fun k r q hr hk => H2 k r q (List.mem_append_left _ hr) hk)), j3 L1 H1 (fun k r q hr hk => H2 k r q (List.mem_append_right _ hr) hk) H3⟩
  | (t, .mut n) :: ps, i, x :: xs, A, log, h => by
    simp only [argsM] at h
    obtain ⟨⟨y, r0⟩, l1, l2, rfl, h1, h⟩ := M.runs_bind h
    obtain ⟨A', l3, l4, rfl, h2, h⟩ := M.runs_bind h
    obtain ⟨rfl, _⟩ := h
    obtain ⟨k1, k2, k3, k4⟩ := mutM_rep hI h1
    obtain ⟨j1, j2, j4, j3⟩ := argsM_rep hI h2
    refine ⟨j1, fun r j hm => ?_, fun j t' n' hj => ?_, fun L1 H1 H2 H3 => ?_⟩
    · rcases List.mem_cons.1 hm with hm | hm
      · injection hm with e1 e2
        subst e1 e2
        exact ⟨Nat.le_refl _, t, n, y, by simp, k2, k3, k1, by simp [k4]⟩
      · obtain ⟨hi, t', n', y', e1, e2, e3, e4, e5⟩ := j2 r j hm
        have : j - i = (j - (i + 1)) + 1 := by omega
        refine ⟨by omega, t', n', y', by rw [this]; simpa using e1, e2, e3, e4, by rw [this]; simpa using e5⟩
    · cases j with
      | zero => exact ⟨r0, by simp⟩
      | succ j =>
        obtain ⟨r, hr⟩ := j4 j t' n' (by simpa using hj)
        exact ⟨r, by rw [show i + (j + 1) = i + 1 + j by omega]; exact List.mem_cons_of_mem _ hr⟩
    · have hs := hI.slots r0
      rw [k1] at hs
      obtain ⟨_, cells, hf, ho⟩ := hs
      refine ⟨a.eval x, _, cells, rfl, by rw [k4]; exact hf, ?_, j3 L1 H1 H2 (fun k r j q hm hk => H3 k r j q (List.mem_cons_of_mem _ hm) hk)⟩
      refine Own.move (fun k hk => ⟨?_, rfl⟩) (fun k d rest _ hk => ⟨H3 k r0 i _ (by simp) hk, rfl⟩) ho
      rcases hk with hk | ⟨_, _, hk, _⟩
      · exact H1 k hk
      · cases hk
  | [], _, _ :: _, _, _, h => h.elim
  | (_, .ro) :: _, _, [], _, _, h => h.elim
  | (_, .mut _) :: _, _, [], _, _, h => h.elim

end
end Go.Proofs.Ytdfcejijcnhcaaa.D.Am
