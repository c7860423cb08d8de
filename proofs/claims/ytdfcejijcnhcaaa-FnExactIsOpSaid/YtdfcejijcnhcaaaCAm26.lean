/- A part of the proof: Am26. No conditions. -/
import Derived.Test.YtdfcejijcnhcaaaCAm25
set_option linter.unusedVariables false
set_option linter.unusedSimpArgs false
namespace Go.Proofs.Ytdfcejijcnhcaaa.C.Am

/-! ## 26. Moves and assignments -/
/-- The program run on slots that are known. -/
def M.onT {α : Type} (T : List V) : M α → M α
  | .ret a => .ret a
  | .fail => .fail
  | .get s k => (k (T.getD s .dead)).onT T
  | .bnd t m k => .bnd t m fun x => (k x).onT T
  | .chk b k => .chk b (k.onT T)
  | .ask q k => .chk (askOk q T && decide (tagK ≤ q)) (k.onT T)

theorem M.onT_runs {α : Type} {T T' : List V} : {m : M α} → {a : α} → {log : List Nat} → (m.onT T').Runs T a log → ∃ log', m.Runs T' a log'
  | .ret _, _, _, h => ⟨[], h.1, rfl⟩
  | .fail, _, _, h => h.elim
  | .get s k, a, log, h => by
    obtain ⟨log', h⟩ := M.onT_runs (m := k _) h
    exact ⟨s :: log', log', rfl, h⟩
  | .bnd t m k, a, log, h => by
    obtain ⟨x, hm, h⟩ := h
    obtain ⟨log', h⟩ := M.onT_runs (m := k x) h
    exact ⟨log', x, hm, h⟩
  | .chk c k, a, log, h => by
    obtain ⟨hc, h⟩ := h
    obtain ⟨log', h⟩ := M.onT_runs (m := k) h
    exact ⟨log', hc, h⟩
  | .ask q k, a, log, h => by
    obtain ⟨hc, h⟩ := h
    obtain ⟨log', h⟩ := M.onT_runs (m := k) h
    simp only [Bool.and_eq_true, decide_eq_true_eq] at hc
    exact ⟨q :: log', hc, log', rfl, h⟩

/-- Into an idle slot: what a temporary owns is moved, all else is copied. -/
def mvM (C : Ctx) (vs : List Nat) (d : Nat) (X : TypeId) (x : Operand) : M (List (Nat × V)) :=
  match x with
  | .tmp t => .get t fun v =>
      cond (v.owns && !vs.contains t && v.root.isNone && (match v with | .hole _ _ => false | _ => true)) (.ret [(t, .dead), (d, v)])
        ((copyOf t v).bind fun v' => .chk (okOn vs v') (.ret [(d, v')]))
  | x => (opnd C X x).bind fun v' => .chk (okOn vs v') (.ret [(d, v')])

/-- The slots that go with d. -/
def killD (d : Nat) : Nat → List V → List (Nat × V)
  | _, [] => []
  | i, v :: l => cond (i == d || v.on d) ((i, .dead) :: killD d (i + 1) l) (killD d (i + 1) l)

def killDOk (d : Nat) : Nat → List V → Bool
  | _, [] => true
  | i, v :: l => (i == d || !(v.on d && v.owns)) && killDOk d (i + 1) l

def assignM (C : Ctx) (vs : List Nat) (N d : Nat) (X : TypeId) (x : Operand) : M (List (Nat × V)) :=
  .get d fun vd => .chk (decide (d < N)) (cond vd.owns
    ((allM 0 N).bind fun Ts => .chk (killDOk d 0 Ts) (((mvM C vs d X x).onT (setAll Ts (killD d 0 Ts))).bind fun ups => .ret (killD d 0 Ts ++ ups)))
    (mvM C vs d X x))

section
variable {P : Program} {C : Ctx} {w w' w0 : World} {S S' : Nat → Prop} {L L' L0 : Nat → Lab} {s N : Nat} {vs : List Nat} {T T' : List V} {tm tm' : Array Value} {a : Act}

def isMove (o : Oper) (x : Operand) : Prop := o.op = .move x ∨ o.op = .assign x

theorem run_isMove {o : Oper} {x : Operand} (h : isMove o x) : (execOp a.eval o).run P w = .ok (.value (a.eval x)) w := by
  rcases h with h | h <;> simp [execOp, h]

theorem noOn_of (hI : Inv w0 L0 N vs T a w L) {t : Nat} (h : t ∉ vs) : noOn t t T = true := by
  unfold noOn
  rw [List.all_eq_true]
  intro b hb
  obtain ⟨i, hi⟩ := List.mem_iff_getElem?.1 hb
  simp only [List.getElem?_mapIdx, Option.map_eq_some_iff] at hi
  obtain ⟨v, hv, rfl⟩ := hi
  have hgv : T.getD i .dead = v := by simp [List.getD_eq_getElem?_getD, hv]
  simp only [id_eq, Bool.or_eq_true, bne_iff_ne]
  right
  intro hr
  exact h (hI.roots i t (by rw [hgv]; simp [V.on, hr]))

theorem step_mv (hI : Inv w0 L0 N vs T a w L) {o : Oper} {x : Operand} {d : Nat} {ups : List (Nat × V)} {log : List Nat} (ho : isMove o x) (hdst : o.dst = some d) (hd : d < N) (hid : (T.getD d .dead).idle = true)
    (h : (mvM C vs d o.type x).Runs T ups log) : Step P o w0 L0 N vs (setAll T ups) a w := by
  have hcopy : ∀ {v' : V} {log : List Nat}, (moveM C o.type x).Runs T v' log → okOn vs v' = true → Step P o w0 L0 N vs (setAll T [(d, v')]) a w := by
    intro v' log h hok K Q hK
    have := move_any (P := P) (d := d) hI (run_isMove ho) hid h (okOn_mem hok)
    exact PureRes.inv hI hd hid hdst this hK
  have hother : (∀ t, x ≠ .tmp t) → ((opnd C o.type x).bind fun v' => M.chk (okOn vs v') (.ret [(d, v')])).Runs T ups log → Step P o w0 L0 N vs (setAll T ups) a w := by
    intro hx h
    obtain ⟨v', l1, l2, rfl, h1, h2⟩ := M.runs_bind h
    obtain ⟨hok, rfl, _⟩ := h2
    refine hcopy (log := l1) ?_ hok
    cases x with
    | tmp t => exact absurd rfl (hx t)
    | const c => exact h1
    | func c => exact h1
    | global c => exact h1
  cases x with
  | const c => exact hother (by simp) h
  | func c => exact hother (by simp) h
  | global c => exact hother (by simp) h
  | tmp t =>
    obtain ⟨log', rfl, h⟩ := h
    dsimp only at h
    cases hc : ((T.getD t .dead).owns && !vs.contains t && (T.getD t .dead).root.isNone && (match T.getD t .dead with | .hole _ _ => false | _ => true)) with
    | true =>
      rw [hc] at h
      obtain ⟨rfl, _⟩ := h
      simp only [Bool.and_eq_true, Bool.not_eq_true'] at hc
      obtain ⟨⟨⟨h1, h2⟩, h3⟩, h4⟩ := hc
      have htv : t ∉ vs := fun hm => by rw [List.contains_iff_mem.2 hm] at h2; cases h2
      have hroot : (T.getD t .dead).root = none := by simpa using h3
      obtain ⟨L', hI'⟩ := Inv.moveTo hI (t := t) (d := d) rfl h1 (fun u p e => by rw [e] at h4; cases h4) (fun r i n t x e => by rw [e] at hroot; cases hroot) hd hid (noOn_of hI htv) (by rw [hroot]; simp) (by rw [hroot]; simp)
      exact Step.value hdst (run_isMove ho) hI'
    | false =>
      rw [hc] at h
      obtain ⟨v', l1, l2, rfl, h1, h2⟩ := M.runs_bind h
      obtain ⟨hok, rfl, _⟩ := h2
      exact hcopy (log := t :: l1) ⟨l1, rfl, h1⟩ hok

theorem killD_mem {d : Nat} : {i : Nat} → {l : List V} → (s : Nat) → (v : V) → ((s, v) ∈ killD d i l ↔ v = .dead ∧ i ≤ s ∧ s < i + l.length ∧ (s = d ∨ (l.getD (s - i) .dead).on d = true))
  | i, [], s, v => by simp [killD]; omega
  | i, v0 :: l, s, v => by
    have ih := killD_mem (d := d) (i := i + 1) (l := l) s v
    have hsh : i + 1 ≤ s → (v0 :: l).getD (s - i) .dead = l.getD (s - (i + 1)) .dead := fun h => by
      rw [show s - i = (s - (i + 1)) + 1 by omega, List.getD_cons_succ]
    simp only [killD]
    cases hc : (i == d || v0.on d) with
    | true =>
      simp only [cond_true, List.mem_cons, Prod.mk.injEq, ih, List.length_cons]
      constructor
      · rintro (⟨rfl, rfl⟩ | ⟨h1, h2, h3, h4⟩)
        · refine ⟨rfl, Nat.le_refl _, by omega, ?_⟩
          rw [Nat.sub_self, List.getD_cons_zero]
          simpa using hc
        · refine ⟨h1, by omega, by omega, ?_⟩
          rw [hsh h2]
          exact h4
      · rintro ⟨h1, h2, h3, h4⟩
        by_cases hs : s = i
        · exact .inl ⟨hs, h1⟩
        · refine .inr ⟨h1, by omega, by omega, ?_⟩
          rw [← hsh (by omega)]
          exact h4
    | false =>
      simp only [cond_false, ih, List.length_cons]
      constructor
      · rintro ⟨h1, h2, h3, h4⟩
        refine ⟨h1, by omega, by omega, ?_⟩
        rw [hsh h2]
        exact h4
      · rintro ⟨h1, h2, h3, h4⟩
        by_cases hs : s = i
        · subst hs
          rw [Nat.sub_self, List.getD_cons_zero] at h4
          simp only [Bool.or_eq_false_iff, beq_eq_false_iff_ne] at hc
          rcases h4 with h4 | h4
          · exact absurd h4 hc.1
          · rw [hc.2] at h4; cases h4
        · refine ⟨h1, by omega, by omega, ?_⟩
          rw [← hsh (by omega)]
          exact h4

theorem killDOk_spec {d : Nat} : {i : Nat} → {l : List V} → killDOk d i l = true → ∀ s, i + s ≠ d → (l.getD s .dead).on d = true → (l.getD s .dead).owns = false
  | _, [], _, s, _, h => by simp [V.on, V.root] at h
  | i, v0 :: l, h, s, hs, hc => by
    simp only [killDOk, Bool.and_eq_true, Bool.or_eq_true, Bool.not_eq_true', beq_iff_eq] at h
    cases s with
    | zero =>
      simp only [List.getD_cons_zero] at hc ⊢
      have := h.1.resolve_left (by simpa using hs)
      rw [hc, Bool.true_and] at this
      exact this
    | succ s =>
      simp only [List.getD_cons_succ] at hc ⊢
      exact killDOk_spec h.2 s (by omega) hc

theorem killD_get (hl : T.length = N) {d : Nat} (hd : d < N) (s : Nat) : (setAll T (killD d 0 T)).getD s .dead = if (s == d || (T.getD s .dead).on d) = true then .dead else T.getD s .dead := by
  split
  · rename_i hc
    by_cases hs : s < N
    · refine getD_setAll_mem (by rw [hl]; exact hs) (List.mem_map.2 ⟨(s, .dead), (killD_mem s .dead).2 ⟨rfl, Nat.zero_le _, by rw [Nat.zero_add, hl]; exact hs, ?_⟩, rfl⟩) (fun v hm => ((killD_mem s v).1 hm).1)
      simpa using hc
    · exact getD_out (by rw [length_setAll, hl]; omega)
  · rename_i hc
    refine getD_setAll _ _ _ (fun hm => hc ?_)
    obtain ⟨u, hu, he⟩ := List.mem_map.1 hm
    have := ((killD_mem s u.2).1 (by rw [← he]; exact hu)).2.2.2
    simpa using this

theorem step_assign (hI : Inv w0 L0 N vs T a w L) {o : Oper} {x : Operand} {d : Nat} {ups : List (Nat × V)} {log : List Nat} (ho : isMove o x) (hdst : o.dst = some d)
    (h : (assignM C vs N d o.type x).Runs T ups log) : Step P o w0 L0 N vs (setAll T ups) a w := by
  obtain ⟨log0, rfl, hd, h⟩ := h
  have hd : d < N := by simpa using hd
  cases hown : (T.getD d .dead).owns with
  | false =>
    rw [hown] at h
    exact step_mv hI ho hdst hd (by rw [V.idle, hown]; rfl) h
  | true =>
    rw [hown] at h
    obtain ⟨Ts, l1, l2, rfl, hall, hk, h⟩ := M.runs_bind h
    have hTs : Ts = T := by rw [allM_runs hall (by rw [Nat.zero_add, hI.len])]; rfl
    subst hTs
    obtain ⟨ups2, l3, l4, rfl, h1, h2⟩ := M.runs_bind h
    obtain ⟨rfl, _⟩ := h2
    obtain ⟨log', h1⟩ := M.onT_runs h1
    have hI1 := Inv.kill hI (T' := setAll Ts (killD d 0 Ts)) (fun s => s == d || (Ts.getD s .dead).on d) (by rw [length_setAll, hI.len]) (fun s => killD_get hI.len hd s) (fun s r hs ho1 ho2 => by
      simp only [Bool.or_eq_false_iff, beq_eq_false_iff_ne] at hs ⊢
      refine ⟨fun e => ?_, ?_⟩
      · subst e; rw [hs.2] at ho1; cases ho1
      · cases hr : (Ts.getD r .dead).on d with
        | false => rfl
        | true =>
          by_cases hrd : r = d
          · subst hrd; rw [hs.2] at ho1; cases ho1
          · rw [killDOk_spec hk r (by simpa using hrd) hr] at ho2; cases ho2)
    rw [setAll_append]
    refine step_mv hI1 ho hdst hd ?_ h1
    rw [killD_get hI.len hd, if_pos (by simp)]
    rfl

end
end Go.Proofs.Ytdfcejijcnhcaaa.C.Am
