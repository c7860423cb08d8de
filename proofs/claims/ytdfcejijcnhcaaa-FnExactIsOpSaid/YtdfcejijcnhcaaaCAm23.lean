/- A part of the proof: Am23. No conditions. -/
import Derived.Test.YtdfcejijcnhcaaaCAm22
set_option linter.unusedVariables false
set_option linter.unusedSimpArgs false
namespace Go.Proofs.Ytdfcejijcnhcaaa.C.Am

/-! ## 23. Code does what its function says -/
def Ex.ex : Ex → Exit
  | .nrm => .normal
  | .ext i => .exit i
  | .ret => .ret

section
variable {P : Program} {w0 : World} {L0 : Nat → Lab} {vs : List Nat} {E : Env} {A0 : Array Value} {T T' : List V} {a : Act} {w : World}

def J (w0 : World) (L0 : Nat → Lab) (vs : List Nat) (E : Env) (A0 : Array Value) (T : List V) (a : Act) (w : World) : Prop :=
  (∃ L, Inv w0 L0 E.N vs T a w L) ∧ ∀ p, E.pins p = true → a.tmps.getD p undef = A0.getD p undef

def StepOk (P : Program) (w0 : World) (L0 : Nat → Lab) (vs : List Nat) (E : Env) : Prop :=
  P.follows .mixedOrders = true ∧ ∀ o T ups log a w L, Inv w0 L0 E.N vs T a w L → (E.step o).Runs T ups log → Step P o w0 L0 E.N vs (setAll T ups) a w

theorem put_other {dst : Option Tmp} {v : Value} {s : Nat} (h : dst ≠ some s) : (a.put dst v).tmps.getD s undef = a.tmps.getD s undef := by
  cases dst with
  | none => rfl
  | some d =>
    show (a.tmps.setIfInBounds d v).getD s undef = _
    rw [getD_setA, if_neg (fun e => h (by rw [e.1]))]

theorem wp_pin {o : Oper} {K : Act → World → Prop} {Q : Exit → Act → World → Prop} (h : o.wp P a w K Q) :
    o.wp P a w (fun a' w' => K a' w' ∧ ∀ s, o.dst ≠ some s → a'.tmps.getD s undef = a.tmps.getD s undef) Q := by
  unfold Oper.wp at *
  generalize (execOp a.eval o).run P w = r at *
  cases r with
  | ok n w' =>
    cases n <;> simp only [Oper.upon] at h ⊢
    case value v => exact ⟨h, fun s hs => put_other hs⟩
    case skip => exact ⟨h, fun s hs => put_other hs⟩
    case defer d => exact ⟨h, fun s hs => put_other (a := { a with defers := d :: a.defers }) hs⟩
    case enter f args =>
      refine Calls.mono h (fun e w'' he => ?_)
      cases e with
      | returned v => exact ⟨he, fun s hs => put_other hs⟩
      | panicked c => exact he
      | outgrown => exact he
    case row => exact Rows.mono h (fun v w'' he => ⟨he, fun s hs => put_other hs⟩)
    all_goals exact h
  | halt x w' => cases x <;> simp only [Oper.upon] at h ⊢ <;> exact h

/-- An operation that is left out. -/
def SkipRec (E : Env) (o : Oper) (T : List V) (r : Rec) : Prop := r.2 = o.dst.toList.map (fun d => (d, V.tup [])) ∧ ∀ d, o.dst = some d → (T.getD d .dead).idle = true ∧ d < E.N ∧ d ∈ r.1

/-- An operation of a region does what its record says. -/
def DoesAt (E : Env) (ops : Array Oper) (o : Oper) (T : List V) (r : Rec) : Prop :=
  pinOk E o = true ∧
  ((o.guard = none ∧ ∃ log, (E.step o).Runs T r.2 log ∧ ∀ s ∈ log, s ∈ r.1) ∨
   (∃ j want g l0 n0 b, o.guard = some (j, want) ∧ (ops[j]?).bind (·.dst) = some g ∧ T.getD g .dead = .d l0 n0 .bool b ∧ g ∈ r.1 ∧
    ((b = want ∧ ∃ log, (E.step o).Runs T r.2 log ∧ ∀ s ∈ log, s ∈ r.1) ∨ (b ≠ want ∧ SkipRec E o T r))) ∨
   ∃ j want g, o.guard = some (j, want) ∧ (ops[j]?).bind (·.dst) = some g ∧ T.getD g .dead = .tup [] ∧ g ∈ r.1 ∧ SkipRec E o T r)

theorem DoesAt.agree {ops : Array Oper} {o : Oper} {r : Rec} (hl : T.length ≤ tagK) (hl' : T'.length = T.length) (h : DoesAt E ops o T r) (hT : ∀ s ∈ r.1, Agr T T' s) : DoesAt E ops o T' r := by
  have hT1 : ∀ s ∈ r.1, T'.getD s .dead = T.getD s .dead := fun s hs => by
    by_cases hk : s < tagK
    · exact (hT s hs).1 hk
    · rw [getD_out (by omega), getD_out (by omega)]
  refine ⟨h.1, ?_⟩
  have hskip : SkipRec E o T r → SkipRec E o T' r := fun ⟨h6, h7⟩ => ⟨h6, fun d hd => by
    obtain ⟨h8, h9, h10⟩ := h7 d hd
    exact ⟨by rw [hT1 d h10]; exact h8, h9, h10⟩⟩
  rcases h.2 with ⟨h1, log, h2, h3⟩ | ⟨j, want, g, l0, n0, b, h1, h2, h3, h4, h5⟩ | ⟨j, want, g, h1, h2, h3, h4, h5⟩
  · exact .inl ⟨h1, log, M.runs_agree hl hl' h2 (fun s hs => hT s (h3 s hs)), h3⟩
  · refine .inr (.inl ⟨j, want, g, l0, n0, b, h1, h2, (hT1 g h4).trans h3, h4, ?_⟩)
    rcases h5 with ⟨h5, log, h6, h7⟩ | ⟨h5, h6⟩
    · exact .inl ⟨h5, log, M.runs_agree hl hl' h6 (fun s hs => hT s (h7 s hs)), h7⟩
    · exact .inr ⟨h5, hskip h6⟩
  · exact .inr (.inr ⟨j, want, g, h1, h2, (hT1 g h4).trans h3, h4, hskip h5⟩)

theorem Inv.yields {L : Nat → Lab} (hI : Inv w0 L0 E.N vs T a w L) {ops : Array Oper} {j g : Nat} {l0 : Option Nat} {n0 : Nat} {b : Bool} (h2 : (ops[j]?).bind (·.dst) = some g) (h3 : T.getD g .dead = .d l0 n0 .bool b) :
    yielded ops a.tmps j = some b := by
  have hs := hI.slots g
  rw [h3] at hs
  have hb := hs.bool
  unfold yielded
  rw [h2]
  have hlt : g < a.tmps.size := by
    rcases Nat.lt_or_ge g a.tmps.size with h | h
    · exact h
    · exfalso
      rw [hI.size] at h
      rw [getD_out (by rw [hI.len]; exact h)] at h3
      cases h3
  simp only [Option.bind_some, Array.getElem?_eq_getElem hlt]
  simp only [Array.getD_eq_getD_getElem?, Array.getElem?_eq_getElem hlt, Option.getD_some] at hb
  rw [hb]

theorem Inv.noYield {L : Nat → Lab} (hI : Inv w0 L0 E.N vs T a w L) {ops : Array Oper} {j g : Nat} (h2 : (ops[j]?).bind (·.dst) = some g) (h3 : T.getD g .dead = .tup []) : yielded ops a.tmps j = none := by
  have hs := hI.slots g
  rw [h3] at hs
  obtain ⟨us, hu, _⟩ := hs
  unfold yielded
  rw [h2]
  simp only [Option.bind_some]
  rw [Array.getD_eq_getD_getElem?] at hu
  cases hg : a.tmps[g]? with
  | none => rfl
  | some c =>
    rw [hg] at hu
    simp only [Option.getD_some] at hu
    rw [hu]

theorem Inv.skip {L : Nat → Lab} (hI : Inv w0 L0 E.N vs T a w L) {dst : Option Nat} (h : ∀ d, dst = some d → (T.getD d .dead).idle = true ∧ d < E.N) :
    Inv w0 L0 E.N vs (setAll T (dst.toList.map fun d => (d, V.tup []))) (a.put dst undef) w L := by
  cases dst with
  | none => exact hI
  | some d =>
    obtain ⟨h1, h2⟩ := h d rfl
    exact Inv.set hI h2 h1 (Grows.refl hI d) (.tup []) undef (fun k q hk h => by rw [hI.free k hk] at h; cases h) (fun r hr => by simp [V.on, V.root] at hr) ⟨#[], rfl, rfl⟩

theorem pinOk_ne {o : Oper} (h : pinOk E o = true) {p : Nat} (hp : E.pins p = true) : o.dst ≠ some p := by
  intro e
  unfold pinOk at h
  rw [e] at h
  simp [hp] at h

theorem does_act {ops : Array Oper} {Q : Exit → Act → World → Prop} (hst : StepOk P w0 L0 vs E) {o : Oper} {r : Rec} (h : DoesAt E ops o T r) : Act1 P ops (J w0 L0 vs E A0) Q o T (setAll T r.2) := by
  intro a w hJ K hK
  obtain ⟨⟨L, hI⟩, hpin⟩ := hJ
  have hstep : ∀ log, (E.step o).Runs T r.2 log → o.wp P a w K Q := by
    intro log hr
    have h1 := hst.2 o T r.2 log a w L hI hr
    have h2 := h1 (fun a' w' => ∃ L', Inv w0 L0 E.N vs (setAll T r.2) a' w' L') Q (fun a' w' L' h => ⟨L', h⟩)
    exact Oper.wp_mono (fun a' w' hh => hK a' w' ⟨hh.1, fun p hp => (hh.2 p (pinOk_ne h.1 hp)).trans (hpin p hp)⟩) (wp_pin h2)
  have hskip : SkipRec E o T r → K (a.put o.dst undef) w := fun ⟨h6, h7⟩ => by
    rw [h6] at hK
    exact hK _ _ ⟨⟨L, hI.skip (fun d hd => ⟨(h7 d hd).1, (h7 d hd).2.1⟩)⟩, fun p hp => (put_other (pinOk_ne h.1 hp)).trans (hpin p hp)⟩
  rcases h.2 with ⟨h1, log, h2, h3⟩ | ⟨j, want, g, l0, n0, b, h1, h2, h3, h4, h5⟩ | ⟨j, want, g, h1, h2, h3, h4, h5⟩
  · rw [if_pos (by simp [Region.wanted, h1])]
    exact hstep log h2
  · have hy := hI.yields h2 h3
    have hw : Region.wanted o (yielded ops a.tmps) = (b == want) := by
      simp [Region.wanted, h1, hy]
    rw [hw]
    rcases h5 with ⟨rfl, log, h6, h7⟩ | ⟨h5, h6⟩
    · rw [if_pos (by simp)]
      exact hstep log h6
    · rw [if_neg (by simpa using h5)]
      exact hskip h6
  · have hy := hI.noYield h2 h3
    rw [if_neg (by simp [Region.wanted, h1, hy])]
    exact hskip h5

/-- The records of a region, one behind the other. -/
def Chain (E : Env) (ops : Array Oper) : List Oper → List V → List Rec → List V → Prop
  | [], T, [], T' => T = T'
  | o :: l, T, r :: rs, T' => DoesAt E ops o T r ∧ Chain E ops l (setAll T r.2) rs T'
  | _, _, _, _ => False

theorem set_same {T : List V} {g : Nat} {v : V} (h : T.getD g .dead = v) (hv : v ≠ .dead) : T.set g v = T := by
  refine list_ext (by simp) (fun s => ?_)
  rw [getD_set]
  split
  · rename_i hs
    rw [hs.1, h]
  · rfl

theorem skipUps_rec {o : Oper} {u : List Nat × List (Nat × V)} {g : Nat} (h1 : skipUps E o T = some u) : SkipRec E o T (g :: u.1, u.2) := by
  unfold skipUps at h1
  split at h1
  · rename_i hd
    injection h1 with h1
    subst h1
    exact ⟨by simp [hd], fun d hd' => by rw [hd] at hd'; cases hd'⟩
  · rename_i d hd
    cases hc : ((T.getD d .dead).idle && decide (d < E.N)) with
    | false => rw [hc] at h1; cases h1
    | true =>
      rw [hc] at h1
      simp only [cond_true, Option.some.injEq] at h1
      subst h1
      simp only [Bool.and_eq_true, decide_eq_true_eq] at hc
      refine ⟨by simp [hd], fun d' hd' => ?_⟩
      rw [hd] at hd'
      injection hd' with hd'
      subst hd'
      exact ⟨hc.1, hc.2, by simp⟩

theorem opsK_chain {R : Type} {ops : Array Oper} {draw : Bool} {K : List V → Option R} {T0 : List V} {r : R} : {l : List Oper} → {T : List V} → {recs : List Rec} → opsK E ops draw K T0 l T recs = some r →
    ∃ rs T', Chain E ops l T rs T' ∧ K T' = some r ∧ rs.length = l.length ∧ (draw = true → backB 0 ops.toList = true ∧ tiedB (preds ops.toList []) [] ((recs ++ rs).map fun r => (mask r.rd, mask r.wr)) = true ∧ asksB T0 (recs ++ rs) = true ∧ E.N ≤ tagK)
  | [], T, recs, h => by
    simp only [opsK] at h
    cases hc : (!draw || (backB 0 ops.toList && tiedB (preds ops.toList []) [] (recs.map fun r => (mask r.rd, mask r.wr)) && asksB T0 recs && decide (E.N ≤ tagK))) with
    | false => rw [hc] at h; cases h
    | true =>
      rw [hc] at h
      refine ⟨[], T, rfl, h, rfl, fun hd => ?_⟩
      subst hd
      simp only [Bool.not_true, Bool.false_or, Bool.and_eq_true, decide_eq_true_eq] at hc
      rw [List.append_nil]
      exact ⟨hc.1.1.1, hc.1.1.2, hc.1.2, hc.2⟩
  | o :: l, T, recs, h => by
    simp only [opsK] at h
    cases hp : pinOk E o with
    | false => rw [hp] at h; cases h
    | true =>
      rw [hp] at h
      simp only [cond_true] at h
      split at h
      · rename_i hg
        obtain ⟨ups, log, h1, h2⟩ := M.runK_some h
        obtain ⟨rs, T', h3, h4, h5, h6⟩ := opsK_chain h2
        exact ⟨(log.reverse ++ [], ups) :: rs, T', ⟨⟨hp, .inl ⟨hg, log, h1, by simp⟩⟩, h3⟩, h4, by simp [h5], by simpa using h6⟩
      · rename_i j want hg
        split at h
        · cases h
        · rename_i g hdst
          split at h
          · rename_i l0 n0 b hT
            have key : ∀ b', T.getD g .dead = .d l0 n0 .bool b' → T.set g (.d l0 n0 .bool b') = T := fun b' hT => set_same hT (by simp)
            have hrun : ∀ b', T.getD g .dead = .d l0 n0 .bool b' → b' = want → ((E.step o).runK (T.set g (.d l0 n0 .bool b')) [g] fun log ups => opsK E ops draw K T0 l (setAll (T.set g (.d l0 n0 .bool b')) ups) (recs ++ [(log, ups)])) = some r →
                ∃ rs T', Chain E ops (o :: l) T rs T' ∧ K T' = some r ∧ rs.length = (o :: l).length ∧ (draw = true → backB 0 ops.toList = true ∧ tiedB (preds ops.toList []) [] ((recs ++ rs).map fun r => (mask r.rd, mask r.wr)) = true ∧ asksB T0 (recs ++ rs) = true ∧ E.N ≤ tagK) := by
              intro b' hT hbw h
              rw [key b' hT] at h
              obtain ⟨ups, log, h1, h2⟩ := M.runK_some h
              obtain ⟨rs, T', h3, h4, h5, h6⟩ := opsK_chain h2
              refine ⟨(log.reverse ++ [g], ups) :: rs, T', ⟨⟨hp, .inr (.inl ⟨j, want, g, l0, n0, b', hg, hdst, hT, by simp, .inl ⟨hbw, log, h1, fun s hs => by simp [hs]⟩⟩)⟩, h3⟩, h4, by simp [h5], by simpa using h6⟩
            have hskip : ∀ b', T.getD g .dead = .d l0 n0 .bool b' → b' ≠ want → ((skipUps E o (T.set g (.d l0 n0 .bool b'))).bind fun u => opsK E ops draw K T0 l (setAll (T.set g (.d l0 n0 .bool b')) u.2) (recs ++ [(g :: u.1, u.2)])) = some r →
                ∃ rs T', Chain E ops (o :: l) T rs T' ∧ K T' = some r ∧ rs.length = (o :: l).length ∧ (draw = true → backB 0 ops.toList = true ∧ tiedB (preds ops.toList []) [] ((recs ++ rs).map fun r => (mask r.rd, mask r.wr)) = true ∧ asksB T0 (recs ++ rs) = true ∧ E.N ≤ tagK) := by
              intro b' hT hbw h
              rw [key b' hT] at h
              obtain ⟨u, h1, h2⟩ := Option.bind_eq_some_iff.1 h
              obtain ⟨rs, T', h3, h4, h5, h6⟩ := opsK_chain h2
              exact ⟨(g :: u.1, u.2) :: rs, T', ⟨⟨hp, .inr (.inl ⟨j, want, g, l0, n0, b', hg, hdst, hT, by simp, .inr ⟨hbw, skipUps_rec h1⟩⟩)⟩, h3⟩, h4, by simp [h5], by simpa using h6⟩
            cases b with
            | true =>
              simp only [cond_true] at h
              cases want with
              | true => exact hrun true hT rfl h
              | false => exact hskip true hT (by simp) h
            | false =>
              simp only [cond_false] at h
              cases want with
              | true => exact hskip false hT (by simp) h
              | false => exact hrun false hT rfl h
          · rename_i hT
            obtain ⟨u, h1, h2⟩ := Option.bind_eq_some_iff.1 h
            obtain ⟨rs, T', h3, h4, h5, h6⟩ := opsK_chain h2
            exact ⟨(g :: u.1, u.2) :: rs, T', ⟨⟨hp, .inr (.inr ⟨j, want, g, hg, hdst, hT, by simp, skipUps_rec h1⟩)⟩, h3⟩, h4, by simp [h5], by simpa using h6⟩
          · cases h

theorem chain_stD {ops : Array Oper} : {l : List Oper} → {T : List V} → {rs : List Rec} → {T' : List V} → {k : Nat} → Chain E ops l T rs T' →
    T' = stD (fun _ => true) k rs T ∧ ∀ (i : Nat) (o : Oper) (r : Rec), l[i]? = some o → rs[i]? = some r → DoesAt E ops o (stD (fun j => decide (j < k + i)) k rs T) r
  | [], T, [], T', k, h => ⟨h.symm, fun i o r hi _ => by simp at hi⟩
  | o :: l, T, r :: rs, T', k, ⟨h1, h2⟩ => by
    obtain ⟨h3, h4⟩ := chain_stD (k := k + 1) h2
    refine ⟨by simpa [stD] using h3, fun i o' r' hi hr => ?_⟩
    cases i with
    | zero =>
      simp only [List.getElem?_cons_zero, Option.some.injEq] at hi hr
      subst hi hr
      rw [stD_none (fun j hj => by simp; omega)]
      exact h1
    | succ i =>
      have := h4 i o' r' (by simpa using hi) (by simpa using hr)
      simp only [stD]
      rw [if_pos (by simp)]
      rwa [show k + (i + 1) = k + 1 + i by omega]
  | [], _, _ :: _, _, _, h => h.elim
  | _ :: _, _, [], _, _, h => h.elim

theorem J.len (h : J w0 L0 vs E A0 T a w) : T.length = E.N := by obtain ⟨⟨L, hI⟩, _⟩ := h; exact hI.len

theorem chain_wp {ops : Array Oper} {Q : Exit → Act → World → Prop} (hst : StepOk P w0 L0 vs E) : {l : List Oper} → {T : List V} → {rs : List Rec} → {i : Nat} → (∀ k o, l[k]? = some o → ops[i + k]? = some o) → Chain E ops l T rs T' →
    (∀ a' w', J w0 L0 vs E A0 T' a' w' → Q .normal a' w') → ∀ a w, J w0 L0 vs E A0 T a w → wpOps P ops Q (List.range' i l.length) a w
  | [], T, [], i, _, h, hQ, a, w, hJ => by
    obtain rfl : T = T' := h
    simp only [List.length_nil, List.range'_zero, wpOps]
    exact hQ a w hJ
  | o :: l, T, r :: rs, i, ho, ⟨h1, h2⟩, hQ, a, w, hJ => by
    simp only [List.length_cons, List.range'_succ]
    refine wpOps_step (by simpa using ho 0 o rfl) ?_
    refine does_act hst h1 a w hJ _ (fun a' w' hJ' => chain_wp hst (fun k o hk => ?_) h2 hQ a' w' hJ')
    have := ho (k + 1) o (by simpa using hk)
    rwa [show i + (k + 1) = i + 1 + k by omega] at this
  | [], _, _ :: _, _, _, h, _, _, _, _ => h.elim
  | _ :: _, _, [], _, _, h, _, _, _, _ => h.elim

theorem J.drawn (h : J w0 L0 vs E A0 T a w) (n : Nat) : J w0 L0 vs E A0 T a { w with drawn := n } := by
  obtain ⟨⟨L, hI⟩, hp⟩ := h
  refine ⟨⟨L, hI.size, hI.len, hI.dfr, ⟨hI.fr.os, hI.fr.tape, hI.fr.output, hI.fr.size, hI.fr.keep⟩, hI.free, hI.inj, hI.owner, hI.roots, fun s => ?_⟩, hp⟩
  exact SRep.keep (w := w) (w' := { w with drawn := n }) (L' := L) (T' := T) (tm' := a.tmps) (fun k _ => ⟨rfl, rfl⟩) (fun _ _ _ => ⟨rfl, rfl⟩) (hI.slots s)

theorem region_sound {R : Type} {ops : Array Oper} {draw : Bool} {id : Nat} {K : List V → Option R} {r : R} (hst : StepOk P w0 L0 vs E) (h : opsK E ops draw K T ops.toList T [] = some r) (hJ : J w0 L0 vs E A0 T a w) :
    (Code.region id ops draw).wp P (fun e a' w' => e = .normal ∧ ∃ T', K T' = some r ∧ J w0 L0 vs E A0 T' a' w') a w := by
  obtain ⟨rs, T', hch, hK, hlen, hdraw⟩ := opsK_chain h
  have hsz : rs.length = ops.size := by simpa using hlen
  cases draw with
  | false =>
    refine wp_region ?_
    have := chain_wp (A0 := A0) (Q := fun e a' w' => e = .normal ∧ ∃ T', K T' = some r ∧ J w0 L0 vs E A0 T' a' w') hst (i := 0) (fun k o hk => by simpa using hk) hch (fun a' w' hJ' => ⟨rfl, T', hK, hJ'⟩) a w hJ
    rw [List.range_eq_range']
    simpa using this
  | true =>
    obtain ⟨hb, ht, hq, hN⟩ := hdraw rfl
    rw [List.nil_append] at hq
    obtain ⟨h1, h2⟩ := chain_stD (k := 0) hch
    refine wp_region_draw fun t => ?_
    rw [hst.1]
    refine region_any (J := J w0 L0 vs E A0) (N := E.N) (recs := rs) (T0 := T) hJ.len hN hsz (asks_of hq) ?_ (tied_of hsz (by simpa using ht)) ?_ _ [] sched_ordered (fun i hi => by simp at hi) (fun i hi => .inr (sched_all (backs hb) i hi)) a _ ?_
    · intro i o rc ho hr T1 hT1 hag hask
      have := h2 i o rc (by simpa using ho) hr
      simp only [Nat.zero_add] at this
      exact does_act hst (this.agree (by rw [stD_length, hJ.len]; exact hN) (by rw [stD_length, hJ.len, hT1]) (fun s hs => ⟨fun hk => hag s (List.mem_append_left _ hs) hk, fun hk _ => hask s hs hk⟩))
    · intro a' w' hJ'
      rw [← h1] at hJ'
      exact ⟨rfl, T', hK, hJ'⟩
    · rw [stD_none (fun j _ => by simp)]
      exact hJ.drawn _

theorem keepL_get {m : Nat} : {i : Nat} → {l : List V} → (s : Nat) → (keepL m i l).getD s .dead = if (m.testBit (i + s)) = true then l.getD s .dead else .dead
  | i, [], s => by simp [keepL]
  | i, v :: l, 0 => by
    simp only [keepL, List.getD_cons_zero, Nat.add_zero]
    cases m.testBit i <;> rfl
  | i, v :: l, s + 1 => by
    simp only [keepL, List.getD_cons_succ]
    rw [keepL_get, show i + 1 + s = i + (s + 1) by omega]

theorem keepL_length {m : Nat} : {i : Nat} → {l : List V} → (keepL m i l).length = l.length
  | _, [] => rfl
  | i, v :: l => by simp [keepL, keepL_length]

theorem keepOk_spec {m : Nat} {T : List V} : {i : Nat} → {l : List V} → keepOk m T i l = true → ∀ s r, m.testBit (i + s) = true → (l.getD s .dead).root = some r → m.testBit r = true ∨ (T.getD r .dead).owns = false
  | _, [], _, s, r, _, hr => by simp [V.root] at hr
  | i, v :: l, h, s, r, hs, hr => by
    simp only [keepOk, Bool.and_eq_true, Bool.or_eq_true, Bool.not_eq_true'] at h
    cases s with
    | zero =>
      rw [List.getD_cons_zero] at hr
      rw [hr] at h
      have := h.1.resolve_left (by rw [show i = i + 0 from rfl, hs]; simp)
      simpa using this
    | succ s =>
      refine keepOk_spec h.2 s r (by rwa [show i + 1 + s = i + (s + 1) by omega]) (by simpa using hr)

theorem keep_sound {R : Type} {ks : Option Nat} {K : List V → Option R} {r : R} (h : keepK ks T K = some r) (hJ : J w0 L0 vs E A0 T a w) : ∃ T', K T' = some r ∧ J w0 L0 vs E A0 T' a w := by
  unfold keepK at h
  split at h
  · exact ⟨T, h, hJ⟩
  · rename_i m
    cases hc : keepOk m T 0 T with
    | false => rw [hc] at h; cases h
    | true =>
      rw [hc] at h
      obtain ⟨⟨L, hI⟩, hp⟩ := hJ
      refine ⟨_, h, ⟨_, Inv.kill hI (fun s => !m.testBit s) (by rw [keepL_length, hI.len]) (fun s => ?_) (fun s r hs ho1 ho2 => ?_)⟩, hp⟩
      · rw [keepL_get, Nat.zero_add]
        cases m.testBit s <;> rfl
      · have := keepOk_spec hc s r (by simpa using hs) (by simpa [V.on] using ho1)
        rcases this with h | h
        · simp [h]
        · rw [h] at ho2; cases ho2

/-- The result of a part: where it goes on, and with which slots. -/
def Post {R : Type} (w0 : World) (L0 : Nat → Lab) (vs : List Nat) (E : Env) (A0 : Array Value) (k : Ex → List V → Option R) (r : R) : Exit → Act → World → Prop :=
  fun e a' w' => ∃ ex T', e = ex.ex ∧ k ex T' = some r ∧ J w0 L0 vs E A0 T' a' w'

theorem denK_sound {R : Type} (hst : StepOk P w0 L0 vs E) {r : R} : {c : Code} → {k : Ex → List V → Option R} → {T : List V} → denK E c k T = some r → ∀ a w, J w0 L0 vs E A0 T a w → c.wp P (Post w0 L0 vs E A0 k r) a w
  | .skip, k, T, h, a, w, hJ => wp_skip ⟨.nrm, T, rfl, h, hJ⟩
  | .label _, k, T, h, a, w, hJ => wp_label ⟨.nrm, T, rfl, h, hJ⟩
  | .exit id, k, T, h, a, w, hJ => wp_exit ⟨.ext id, T, rfl, h, hJ⟩
  | .ret, k, T, h, a, w, hJ => wp_ret ⟨.ret, T, rfl, h, hJ⟩
  | .region id ops draw, k, T, h, a, w, hJ => by
    simp only [denK] at h
    obtain ⟨T1, h1, hJ1⟩ := keep_sound h hJ
    refine wp_mono (region_sound hst h1 hJ1) ?_
    rintro e a' w' ⟨rfl, T', hk, hJ'⟩
    exact ⟨.nrm, T', rfl, hk, hJ'⟩
  | .seq x y, k, T, h, a, w, hJ => by
    simp only [denK] at h
    refine wp_seq (wp_mono (denK_sound hst h a w hJ) ?_)
    rintro e a' w' ⟨ex, T', rfl, hk, hJ'⟩
    cases ex with
    | nrm => exact denK_sound hst hk a' w' hJ'
    | ext i => exact ⟨.ext i, T', rfl, hk, hJ'⟩
    | ret => exact ⟨.ret, T', rfl, hk, hJ'⟩
  | .cond c x y, k, T, h, a, w, hJ => by
    cases c with
    | tmp t =>
      simp only [denK] at h
      split at h
      · rename_i l0 n0 b hT
        have hb : a.eval (.tmp t) = .bool b := by
          obtain ⟨⟨L, hI⟩, _⟩ := hJ
          have hs := hI.slots t
          rw [hT] at hs
          exact hs.bool
        have hset : ∀ b', T.getD t .dead = .d l0 n0 .bool b' → T.set t (.d l0 n0 .bool b') = T := fun b' hT => set_same hT (by simp)
        refine wp_cond hb ?_
        cases b with
        | true =>
          simp only [cond_true] at h
          rw [hset true hT] at h
          exact denK_sound hst h a w hJ
        | false =>
          simp only [cond_false] at h
          rw [hset false hT] at h
          exact denK_sound hst h a w hJ
      · cases h
    | const _ => simp [denK] at h
    | func _ => simp [denK] at h
    | global _ => simp [denK] at h
  | .block id c, k, T, h, a, w, hJ => by
    simp only [denK] at h
    refine wp_block (wp_mono (denK_sound hst h a w hJ) ?_)
    rintro e a' w' ⟨ex, T', rfl, hk, hJ'⟩
    cases ex with
    | nrm => exact ⟨.nrm, T', rfl, hk, hJ'⟩
    | ext i =>
      dsimp only at hk
      simp only [Ex.ex, Exit.inBlock]
      by_cases hi : i = id
      · subst hi
        rw [if_pos rfl]
        simp only [beq_self_eq_true, cond_true] at hk
        exact ⟨.nrm, T', rfl, hk, hJ'⟩
      · rw [if_neg hi]
        have : (i == id) = false := by simpa using hi
        rw [this] at hk
        exact ⟨.ext i, T', rfl, hk, hJ'⟩
    | ret => exact ⟨.ret, T', rfl, hk, hJ'⟩
  | .loop c, k, T, h, a, w, hJ => by
    simp only [denK] at h
    obtain ⟨T1, h1, hJ1⟩ := keep_sound h hJ
    let B : (List V → Option R) → List V → Option R := fun self T => denK E c (fun e T' => match e with
        | .nrm => keepK (E.keep (loopKey c)) T' self
        | .ext i => k (.ext i) T'
        | .ret => k .ret T') T
    let I : Nat → Act → World → Prop := fun n a w => ∃ T, iterO B n T = some r ∧ J w0 L0 vs E A0 T a w
    have hex : ∃ n, I n a w := by
      obtain ⟨n, hn⟩ := (fixO_some (turn_tail k)).1 h1
      exact ⟨n, T1, hn, hJ1⟩
    have hmin : ∀ a w, (∃ n, I n a w) → ∃ n, I n a w ∧ ∀ m, I m a w → n ≤ m := by
      intro a w ⟨n, hn⟩
      induction n using Nat.strongRecOn with
      | _ n ih =>
        by_cases hm : ∃ m, m < n ∧ I m a w
        · obtain ⟨m, hm, hI⟩ := hm
          exact ih m hm hI
        · refine ⟨n, hn, fun m hI => ?_⟩
          rcases Nat.lt_or_ge m n with h | h
          · exact absurd ⟨m, h, hI⟩ hm
          · exact h
    let μ : Act → World → Nat := fun a w => open Classical in if h : ∃ n, I n a w then Classical.choose (hmin a w h) else 0
    refine wp_loop (fun a w => ∃ n, I n a w) μ hex (fun a w hI => ?_)
    have hμ : μ a w = Classical.choose (hmin a w hI) := dif_pos hI
    obtain ⟨⟨T2, hit, hJ2⟩, hle⟩ := Classical.choose_spec (hmin a w hI)
    rw [← hμ] at hit hle
    generalize hn : μ a w = n at hit hle
    cases n with
    | zero => cases hit
    | succ n =>
      simp only [iterO, B] at hit
      refine wp_mono (denK_sound hst hit a w hJ2) ?_
      rintro e a' w' ⟨ex, T', rfl, hk, hJ'⟩
      cases ex with
      | nrm =>
        dsimp only at hk
        obtain ⟨T3, h3, hJ3⟩ := keep_sound hk hJ'
        have hI' : ∃ n, I n a' w' := ⟨n, T3, h3, hJ3⟩
        refine ⟨hI', ?_⟩
        have hμ' : μ a' w' = Classical.choose (hmin a' w' hI') := dif_pos hI'
        rw [hμ']
        have := (Classical.choose_spec (hmin a' w' hI')).2 n ⟨T3, h3, hJ3⟩
        omega
      | ext i => exact ⟨.ext i, T', rfl, hk, hJ'⟩
      | ret => exact ⟨.ret, T', rfl, hk, hJ'⟩
  | .rangeFunc .., k, T, h, _, _, _ => by simp [denK] at h
  | .scope _, k, T, h, _, _, _ => by simp [denK] at h
  | .goto _, k, T, h, _, _, _ => by simp [denK] at h
  | .refuse _, k, T, h, _, _, _ => by simp [denK] at h

end
end Go.Proofs.Ytdfcejijcnhcaaa.C.Am
