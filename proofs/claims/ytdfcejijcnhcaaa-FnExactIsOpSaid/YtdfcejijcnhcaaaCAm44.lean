/- A part of the proof: Am44. No conditions. -/
import Derived.Test.YtdfcejijcnhcaaaCAm43
set_option linter.unusedVariables false
set_option linter.constructorNameAsVariable false
set_option linter.unusedSimpArgs false
namespace Go.Proofs.Ytdfcejijcnhcaaa.C.Am

/-! ## 44. A program on slots of which some are turned -/
def lookO : List (Nat × V) → Nat → Option V
  | [], _ => none
  | u :: l, s => cond (u.1 == s) (some u.2) (lookO l s)

def addM (q : Nat) (l : List Nat) : Nat := tagK + (2 * ((q - tagK) / 2 % 100000 + 100000 * ((q - tagK) / 2 / 100000 ||| maskOf false l)) + 1)

def M.over {α : Type} (ov : List (Nat × V)) : M α → M α
  | .ret a => .ret a
  | .fail => .fail
  | .get s k => match lookO ov s with
    | some v => (k v).over ov
    | none => .get s fun v => (k v).over ov
  | .bnd t m k => .bnd t m fun x => (k x).over ov
  | .chk b k => .chk b (k.over ov)
  | .ask q k => cond ((q - tagK) % 2 == 0)
      (match lookO ov ((q - tagK) / 2) with
        | some v => .chk (v.boxy && decide (tagK ≤ q)) (k.over ov)
        | none => .ask q (k.over ov))
      (.chk ((ov.all fun u => qok q u.1 u.2) && decide (tagK ≤ q)) (.ask (addM q (ov.map (·.1))) (k.over ov)))

theorem lookO_mem {ov : List (Nat × V)} {s : Nat} {v : V} (h : lookO ov s = some v) : (s, v) ∈ ov := by
  induction ov with
  | nil => cases h
  | cons u l ih =>
    simp only [lookO] at h
    cases hu : (u.1 == s) with
    | true =>
      rw [hu] at h
      simp only [cond_true, Option.some.injEq] at h
      obtain ⟨u1, u2⟩ := u
      simp only [beq_iff_eq] at hu
      subst hu h
      simp
    | false =>
      rw [hu] at h
      exact List.mem_cons_of_mem _ (ih h)

theorem lookO_none {ov : List (Nat × V)} {s : Nat} (h : lookO ov s = none) : s ∉ ov.map (·.1) := by
  induction ov with
  | nil => simp
  | cons u l ih =>
    simp only [lookO] at h
    cases hu : (u.1 == s) with
    | true => rw [hu] at h; cases h
    | false =>
      rw [hu] at h
      simp only [List.map_cons, List.mem_cons, not_or]
      exact ⟨fun e => by rw [e] at hu; simp at hu, ih h⟩

theorem odd_of {x : Nat} (h : (x % 2 == 0) = false) : x % 2 = 1 := by
  rw [beq_eq_false_iff_ne] at h
  omega

theorem pay {r mm : Nat} (hr : r < 100000) : (2 * (r + 100000 * mm) + 1) % 2 = 1 ∧ (2 * (r + 100000 * mm) + 1) / 2 = r + 100000 * mm ∧ (r + 100000 * mm) / 100000 = mm ∧ (r + 100000 * mm) % 100000 = r := by
  refine ⟨?_, ?_, ?_, ?_⟩ <;> omega

theorem addM_sub (q : Nat) (l : List Nat) : addM q l - tagK = 2 * ((q - tagK) / 2 % 100000 + 100000 * ((q - tagK) / 2 / 100000 ||| maskOf false l)) + 1 := Nat.add_sub_cancel_left _ _

/-- A question about the turned slots. -/
theorem over_box {T T' : List V} {ov : List (Nat × V)} {q : Nat} (hl : T'.length = T.length) (hq : (q - tagK) % 2 = 0) (hb : (T'.getD ((q - tagK) / 2) .dead).boxy = true) (hlt : (q - tagK) / 2 < T.length) : askOk q T' = true := by
  unfold askOk
  rw [Bool.and_eq_true]
  refine ⟨allQ_of fun s hs => ?_, Bool.or_eq_true_iff.2 (.inr (decide_eq_true (by rw [hl]; exact hlt)))⟩
  unfold qok
  rw [hq, Nat.zero_add]
  by_cases he : s = (q - tagK) / 2
  · rw [he, hb, Bool.or_true]; rfl
  · have : (s != (q - tagK) / 2) = true := bne_iff_ne.2 he
    rw [this, Bool.true_or]; rfl

theorem over_bare {T T' : List V} {ov : List (Nat × V)} {q : Nat} (hl : T'.length = T.length) (hT : ∀ s, T'.getD s .dead = (lookO ov s).getD (T.getD s .dead)) (hq1 : (q - tagK) % 2 = 1) (hov : ∀ u ∈ ov, qok q u.1 u.2 = true) (hb : askOk (addM q (ov.map (·.1))) T = true) : askOk q T' = true := by
  have e := addM_sub q (ov.map (·.1))
  have hr : (q - tagK) / 2 % 100000 < 100000 := Nat.mod_lt _ (Nat.zero_lt_succ 99999)
  generalize hm : ((q - tagK) / 2 / 100000 ||| maskOf false (ov.map (·.1))) = mm at e
  obtain ⟨e1, e2, e3, e4⟩ := pay (mm := mm) hr
  unfold askOk at hb ⊢
  rw [Bool.and_eq_true] at hb ⊢
  refine ⟨allQ_of fun s hs => ?_, Bool.or_eq_true_iff.2 (.inl (beq_iff_eq.2 hq1))⟩
  rw [Nat.zero_add, hT]
  cases hv : lookO ov s with
  | some v => exact hov (s, v) (lookO_mem hv)
  | none =>
    have hs2 : s < T.length := by omega
    have := allQ_get hb.1 s hs2
    unfold qok at this ⊢
    rw [e, e1, e2, e3, e4, Nat.zero_add] at this
    rw [hq1]
    simp only [Option.getD_none]
    have hbit : mm.testBit (s + 1) = ((q - tagK) / 2 / 100000).testBit (s + 1) := by
      rw [← hm, Nat.testBit_or, maskOf_bit (lookO_none hv), Bool.or_false]
    have hbit0 : mm.testBit 0 = ((q - tagK) / 2 / 100000).testBit 0 := by
      rw [← hm, Nat.testBit_or, maskOf_zero, Bool.or_false]
    rw [hbit, hbit0, show ((1 : Nat) == 0) = false from rfl, cond_false] at this
    rw [show ((1 : Nat) == 0) = false from rfl, cond_false]
    exact this

theorem over_runs {α : Type} {T T' : List V} {ov : List (Nat × V)} (hl : T'.length = T.length) (hin : ∀ s, s ∈ ov.map (·.1) → s < T.length) (hT : ∀ s, T'.getD s .dead = (lookO ov s).getD (T.getD s .dead)) (m : M α) :
    ∀ {a : α} {log : List Nat}, (m.over ov).Runs T a log → ∃ log', m.Runs T' a log' := by
  induction m with
  | ret _ => intro a log h; exact ⟨[], h.1, rfl⟩
  | fail => intro a log h; exact h.elim
  | get s k ih =>
    intro a log h
    simp only [M.over] at h
    have hs := hT s
    split at h
    · rename_i v hv
      rw [hv] at hs
      obtain ⟨log', h⟩ := ih v h
      exact ⟨s :: log', log', rfl, by rw [hs]; exact h⟩
    · rename_i hv
      rw [hv] at hs
      obtain ⟨l1, rfl, h⟩ := h
      obtain ⟨log', h⟩ := ih _ h
      exact ⟨s :: log', log', rfl, by rw [hs]; exact h⟩
  | bnd _ _ k ih =>
    intro a log h
    obtain ⟨x, hx, h⟩ := h
    obtain ⟨log', h⟩ := ih x h
    exact ⟨log', x, hx, h⟩
  | chk _ k ih =>
    intro a log h
    obtain ⟨hb, h⟩ := h
    obtain ⟨log', h⟩ := ih h
    exact ⟨log', hb, h⟩
  | ask q k ih =>
    intro a log h
    simp only [M.over] at h
    cases hq : ((q - tagK) % 2 == 0) with
    | true =>
      rw [hq] at h
      simp only [cond_true] at h
      simp only [beq_iff_eq] at hq
      split at h
      · rename_i v hv
        obtain ⟨hb, h⟩ := h
        simp only [Bool.and_eq_true, decide_eq_true_eq] at hb
        obtain ⟨log', h⟩ := ih h
        exact ⟨q :: log', ⟨over_box (ov := ov) hl hq (by rw [hT, hv]; exact hb.1) (hin _ (List.mem_map_of_mem (f := (·.1)) (lookO_mem hv))), hb.2⟩, log', rfl, h⟩
      · rename_i hv
        obtain ⟨⟨hb, hk⟩, l1, rfl, h⟩ := h
        obtain ⟨log', h⟩ := ih h
        unfold askOk at hb
        rw [Bool.and_eq_true, hq] at hb
        have hlt : (q - tagK) / 2 < T.length := by simpa using hb.2
        have := allQ_get hb.1 _ hlt
        unfold qok at this
        rw [hq, Nat.zero_add] at this
        exact ⟨q :: log', ⟨over_box (ov := ov) hl hq (by rw [hT, hv]; simpa using this) hlt, hk⟩, log', rfl, h⟩
    | false =>
      rw [hq] at h
      obtain ⟨hov, ⟨hb, hk⟩, l1, rfl, h⟩ := h
      simp only [Bool.and_eq_true, decide_eq_true_eq, List.all_eq_true] at hov
      obtain ⟨log', h⟩ := ih h
      have hq1 := odd_of hq
      exact ⟨q :: log', ⟨over_bare hl hT hq1 hov.1 hb, hov.2⟩, log', rfl, h⟩

/-! ### what is shown is taken -/
/-- Whole or in part, out of a variable in memory. -/
def boxTake (N : Nat) (kids : List Nat) (s r : Nat) (p : List St) (t' : Ty) (u : V) (m : M (List (Nat × V))) : M (List (Nat × V)) :=
  (rootD p u).bind fun z => match z with
    | (none, ⟨n, t, x⟩) =>
      if n ≠ 0 ∧ t.depth ≠ 0 ∧ s < N ∧ r < N ∧ s ≠ r ∧ t = t' then
        match p with
        | [] => bareM true r s kids ((m.over [(r, .dead), (s, .d none n t x)]).bind fun ups => .ret ((r, .dead) :: (s, .d none n t x) :: ups))
        | _ :: _ => match t, x with
          | .slice e te, x => (modRoot p u (.slice e te) []).bind fun u' => bareM false r s kids ((m.over [(r, .hole u' p), (s, .d none n (.slice e te) x)]).bind fun ups => .ret ((r, .hole u' p) :: (s, .d none n (.slice e te) x) :: ups))
          | _, _ => m
      else m
    | _ => m

def takeFor (N : Nat) (kids : Nat → List Nat) : List Nat → M (List (Nat × V)) → M (List (Nat × V))
  | [], m => m
  | s :: l, m => .get s fun v => match v with
    | .view r p t => .get r fun u => match u with
      | .d _ _ _ _ => match p with
        | [] => withTake N [s] (takeFor N kids l m)
        | _ :: _ => takeFor N kids l m
      | .box _ _ _ _ => boxTake N (kids r) s r p t u (takeFor N kids l m)
      | _ => takeFor N kids l m
    | _ => takeFor N kids l m

section
variable {P : Program} {C : Ctx} {w w' w0 : World} {S S' : Nat → Prop} {L L' L0 : Nat → Lab} {s N : Nat} {vs : List Nat} {T T' : List V} {tm tm' : Array Value} {a : Act}

theorem two_look {r s : Nat} {v1 v2 : V} (hrs : s ≠ r) (hr : r < T.length) (hs : s < T.length) : (∀ z, ((T.set r v1).set s v2).getD z .dead = (lookO [(r, v1), (s, v2)] z).getD (T.getD z .dead)) ∧ ∀ z, z ∈ [(r, v1), (s, v2)].map (·.1) → z < T.length := by
  refine ⟨fun z => ?_, fun z hz => ?_⟩
  · simp only [lookO]
    rw [getD_set, getD_set]
    by_cases h1 : z = r
    · subst h1
      simp [hrs.symm, hr]
    · have e1 : (r == z) = false := by simpa using Ne.symm h1
      by_cases h2 : z = s
      · subst h2
        rw [e1]
        simp [hs]
      · have e2 : (s == z) = false := by simpa using Ne.symm h2
        rw [e1, e2]
        simp [h1, h2]
  · simp only [List.map_cons, List.map_nil, List.mem_cons, List.not_mem_nil, or_false] at hz
    rcases hz with rfl | rfl
    · exact hr
    · exact hs

theorem boxTake_runs {m : M (List (Nat × V))} {kids : List Nat} {r : Nat} {p : List St} {t' : Ty} {u : V} {ups : List (Nat × V)} {log : List Nat} (hI : Inv w0 L0 N vs T a w L) (hs : T.getD s .dead = .view r p t') (hr : T.getD r .dead = u) (hbox : ∃ l n t x, u = .box l n t x)
    (h0 : (boxTake N kids s r p t' u m).Runs T ups log) : ∃ T1 L1 ups2 log2, Inv w0 L0 N vs T1 a w L1 ∧ m.Runs T1 ups2 log2 ∧ setAll T ups = setAll T1 ups2 := by
  obtain ⟨z, l1, l2, rfl, hz, h⟩ := M.runs_bind h0
  obtain ⟨l, n, t, x⟩ := z
  have hsame : ∀ {log}, m.Runs T ups log → ∃ T1 L1 ups2 log2, Inv w0 L0 N vs T1 a w L1 ∧ m.Runs T1 ups2 log2 ∧ setAll T ups = setAll T1 ups2 := fun h => ⟨T, L, ups, _, hI, h, rfl⟩
  have hu : u.boxy = true := by obtain ⟨l0, n0, t0, x0, rfl⟩ := hbox; rfl
  cases l with
  | some _ => exact hsame h
  | none =>
    dsimp only at h
    split at h
    · rename_i hc
      obtain ⟨hn, hd, hsN, hrN, hsr, rfl⟩ := hc
      have hTl : T.length = N := hI.len
      cases p with
      | nil =>
        obtain ⟨hbare, log2, h⟩ := bareM_runs h
        obtain ⟨ups2, l3, l4, rfl, h1, h2⟩ := M.runs_bind h
        obtain ⟨rfl, _⟩ := h2
        obtain ⟨hlook, hin⟩ := two_look (T := T) (v1 := .dead) (v2 := .d none n t x) hsr (by omega) (by omega)
        obtain ⟨log3, h1⟩ := over_runs (T' := (T.set r .dead).set s (.d none n t x)) (by simp) hin hlook m h1
        have hvd : (viewD [] (T.getD r .dead)).Runs T (none, ⟨n, t, x⟩) l1 := by
          rw [hr]
          obtain ⟨l0, n0, t0, x0, rfl⟩ := hbox
          exact hz
        have hno : noOn r s T = true := by
          unfold noOn
          rw [List.all_eq_true]
          intro b hb
          obtain ⟨i, hi⟩ := List.mem_iff_getElem?.1 hb
          simp only [List.getElem?_mapIdx, Option.map_eq_some_iff] at hi
          obtain ⟨v, hv, rfl⟩ := hi
          have hgv : T.getD i .dead = v := by simp [List.getD_eq_getElem?_getD, hv]
          simp only [id_eq, Bool.or_eq_true, beq_iff_eq, bne_iff_ne]
          by_cases his : i = s
          · exact .inl his
          · right
            have := hbare i his
            rw [hgv] at this
            simpa [V.on] using this
        obtain ⟨L', hI'⟩ := Inv.take hI hs hsN hvd hn hd hno
        exact ⟨_, L', ups2, log3, hI', h1, rfl⟩
      | cons st p =>
        dsimp only at h
        split at h
        · rename_i e te x
          obtain ⟨u', l3, l4, rfl, hm, h⟩ := M.runs_bind h
          obtain ⟨hbare, log2, h⟩ := bareM_runs h
          obtain ⟨ups2, l5, l6, rfl, h1, h2⟩ := M.runs_bind h
          obtain ⟨rfl, _⟩ := h2
          obtain ⟨hlook, hin⟩ := two_look (T := T) (v1 := .hole u' (st :: p)) (v2 := .d none n (.slice e te) x) hsr (by omega) (by omega)
          obtain ⟨log3, h1⟩ := over_runs (T' := (T.set r (.hole u' (st :: p))).set s (.d none n (.slice e te) x)) (by simp) hin hlook m h1
          obtain ⟨L', hI'⟩ := Inv.takeHole hI hs hr hu hsN hrN hz hm hn hbare
          exact ⟨_, L', ups2, log3, hI', h1, rfl⟩
        · exact hsame h
    · exact hsame h

theorem takeFor_runs {w : World} {a : Act} {m : M (List (Nat × V))} {kids : Nat → List Nat} : {ss : List Nat} → {T : List V} → {L : Nat → Lab} → {ups : List (Nat × V)} → {log : List Nat} → Inv w0 L0 N vs T a w L → (takeFor N kids ss m).Runs T ups log →
    ∃ T1 L1 ups2 log2, Inv w0 L0 N vs T1 a w L1 ∧ m.Runs T1 ups2 log2 ∧ setAll T ups = setAll T1 ups2
  | [], T, L, ups, log, hI, h => ⟨T, L, ups, log, hI, h, rfl⟩
  | s :: l, T, L, ups, log, hI, h => by
    obtain ⟨log1, rfl, h⟩ := h
    dsimp only at h
    generalize hvs : T.getD s .dead = v at h
    split at h
    · rename_i r p t'
      obtain ⟨log2, rfl, h⟩ := h
      dsimp only at h
      generalize hur : T.getD r .dead = u at h
      split at h
      · split at h
        · obtain ⟨T1, L1, ups2, log3, k1, k2, k3⟩ := withTake_runs hI h
          obtain ⟨T2, L2, ups3, log4, j1, j2, j3⟩ := takeFor_runs k1 k2
          exact ⟨T2, L2, ups3, log4, j1, j2, k3.trans j3⟩
        · exact takeFor_runs hI h
      · obtain ⟨T1, L1, ups2, log3, k1, k2, k3⟩ := boxTake_runs hI hvs hur ⟨_, _, _, _, rfl⟩ h
        obtain ⟨T2, L2, ups3, log4, j1, j2, j3⟩ := takeFor_runs k1 k2
        exact ⟨T2, L2, ups3, log4, j1, j2, k3.trans j3⟩
      · exact takeFor_runs hI h
    · exact takeFor_runs hI h
end
end Go.Proofs.Ytdfcejijcnhcaaa.C.Am
