/- A part of the proof: Am48, Am49, Am54, Am55, Am30, Am31, Am32. No conditions. -/
import Derived.Test.YtamkkancfmbanaaDoorPG5
set_option linter.unusedVariables false
set_option linter.unusedSimpArgs false
namespace Go.Proofs.YtamkkancfmbanaaDoor.P.Am

/-! ## 48. The step of a call that writes into a place -/
structure PlaceArg where
  i : Nat
  r : Nat
  p : List St
  u : V
  n' : Nat
  t : Ty

def argAtM (t : Ty) (n : Nat) (x : Operand) : M (t.den × Nat × List St × V × Nat) :=
  match x with
  | .tmp s => .get s fun v => match v with
    | .view r p tv => .get r fun u => (rootD p u).bind fun z =>
      if h : z.2.t = t then (if tv = t ∧ t.depth ≤ z.2.n ∧ t.depth ≤ n ∧ t.depth ≠ 0 ∧ z.1 = none then .ret (h ▸ z.2.x, r, p, u, z.2.n) else .fail) else .fail
    | _ => .fail
  | _ => .fail

structure ArgsA (ps : List (Ty × Mode)) where
  x : (pTy ps).den
  ls : List Nat
  mu : List PlaceArg

def argsAtM (C : Ctx) : Nat → (ps : List (Ty × Mode)) → List Operand → M (ArgsA ps)
  | _, [], [] => .ret ⟨(), [], []⟩
  | i, (t, .ro) :: ps, x :: xs => (argM C t x).bind fun y => (argsAtM C (i + 1) ps xs).bind fun r => .ret ⟨(y.1, r.x), y.2 ++ r.ls, r.mu⟩
  | i, (t, .mut n) :: ps, x :: xs => (argAtM t n x).bind fun y => (argsAtM C (i + 1) ps xs).bind fun r => .ret ⟨(y.1, r.x), r.ls, ⟨i, y.2.1, y.2.2.1, y.2.2.2.1, y.2.2.2.2, t⟩ :: r.mu⟩
  | _, _, _ => .fail

def depsG (g : Nat → V → Bool) : Nat → List V → List (Nat × V)
  | _, [] => []
  | i, v :: l => cond (g i v) ((i, .dead) :: depsG g (i + 1) l) (depsG g (i + 1) l)

def depsGOk (g : Nat → V → Bool) : Nat → List V → Bool
  | _, [] => true
  | i, v :: l => (!(g i v) || !v.owns) && depsGOk g (i + 1) l

def goesAt (r d : Nat) (u : V) : Nat → V → Bool := fun z v => v.on r && z != r && z != d && !keepAt u v

def callAtM (C : Ctx) (tab : Tab) (vs : List Nat) (N d : Nat) (f : FuncId) (args : List Operand) : M (List (Nat × V)) :=
  match tab f with
  | none => .fail
  | some F => (argsAtM C 0 F.ps args).bind fun A => match A.mu, F.rs with
    | [m], [(t0, n0)] => cond (A.ls.contains m.r || !decide (m.r < N) || !decide (t0.depth = 0) || !decide (n0 < 1000)) .fail (.bnd (.pair (rTy F.rs) (mTy F.ps)) (F.sem A.x) fun res => match resV vs [] F.rs res.1, mutV F.ps res.2 with
      | some (.d none n1 t1 x1), some (.d none _ t' y') => if h : t' = m.t then
          (if t1.depth = 0 then (modRoot m.p m.u m.t (h ▸ y')).bind fun u2 => (allM 0 N).bind fun Ts => .chk (depsGOk (goesAt m.r d m.u) 0 Ts) (.ret (((m.r, u2) :: depsG (goesAt m.r d m.u) 0 Ts) ++ [(d, .d none n1 t1 x1)])) else .fail) else .fail
      | _, _ => .fail)
    | _, _ => .fail

def mutOp : List (Ty × Mode) → List Operand → Option Operand
  | (_, .ro) :: ps, _ :: xs => mutOp ps xs
  | (_, .mut _) :: _, x :: _ => some x
  | _, _ => none

/-- A call: of a place, or of slots as they are. -/
def callXM (C : Ctx) (tab : Tab) (vs : List Nat) (N d : Nat) (f : FuncId) (args : List Operand) : M (List (Nat × V)) :=
  match tab f with
  | none => .fail
  | some F => match mutOp F.ps args with
    | some (.tmp s) => .get s fun v => match v with
      | .view r p _ => .get r fun u => cond (u.isD && p.isEmpty) (callM C tab vs N d f args) (callAtM C tab vs N d f args)
      | _ => callM C tab vs N d f args
    | _ => callM C tab vs N d f args

section
variable {P : Program} {C : Ctx} {w w' w0 : World} {S S' : Nat → Prop} {L L' L0 : Nat → Lab} {s N : Nat} {vs : List Nat} {T T' : List V} {tm tm' : Array Value} {a : Act}

theorem depsG_mem {g : Nat → V → Bool} : {i : Nat} → {l : List V} → (s : Nat) → (v : V) → ((s, v) ∈ depsG g i l ↔ v = .dead ∧ i ≤ s ∧ s < i + l.length ∧ g s (l.getD (s - i) .dead) = true)
  | i, [], s, v => by
    simp only [depsG, List.not_mem_nil, false_iff]
    rintro ⟨_, h1, h2, _⟩
    simp at h2
    omega
  | i, x :: l, s, v => by
    have ih := depsG_mem (g := g) (i := i + 1) (l := l) s v
    have e : ∀ h : i + 1 ≤ s, (x :: l).getD (s - i) .dead = l.getD (s - (i + 1)) .dead := fun h => by
      rw [show s - i = (s - (i + 1)) + 1 by omega]; rfl
    unfold depsG
    cases hg : g i x with
    | true =>
      rw [cond_true, List.mem_cons, ih]
      constructor
      · rintro (h | ⟨h1, h2, h3, h4⟩)
        · injection h with h1 h2
          subst h1
          refine ⟨h2, Nat.le_refl _, by simp, by rw [Nat.sub_self]; exact hg⟩
        · exact ⟨h1, by omega, by simp only [List.length_cons]; omega, by rw [e h2]; exact h4⟩
      · rintro ⟨h1, h2, h3, h4⟩
        by_cases hs : s = i
        · left; rw [hs, h1]
        · right
          simp only [List.length_cons] at h3
          refine ⟨h1, by omega, by omega, by rw [← e (by omega)]; exact h4⟩
    | false =>
      rw [cond_false, ih]
      constructor
      · rintro ⟨h1, h2, h3, h4⟩
        exact ⟨h1, by omega, by simp only [List.length_cons]; omega, by rw [e h2]; exact h4⟩
      · rintro ⟨h1, h2, h3, h4⟩
        by_cases hs : s = i
        · subst hs
          rw [Nat.sub_self] at h4
          change g s x = true at h4
          rw [hg] at h4; cases h4
        · simp only [List.length_cons] at h3
          refine ⟨h1, by omega, by omega, by rw [← e (by omega)]; exact h4⟩

theorem depsGOk_spec {g : Nat → V → Bool} : {i : Nat} → {l : List V} → depsGOk g i l = true → ∀ s, s < l.length → g (i + s) (l.getD s .dead) = true → (l.getD s .dead).owns = false
  | _, [], _, s, h, _ => by simp at h
  | i, x :: l, hk, s, h, hg => by
    simp only [depsGOk, Bool.and_eq_true, Bool.or_eq_true, Bool.not_eq_true'] at hk
    cases s with
    | zero =>
      change g (i + 0) x = true at hg
      rw [Nat.add_zero] at hg
      change x.owns = false
      rcases hk.1 with h1 | h1
      · rw [hg] at h1; cases h1
      · exact h1
    | succ s =>
      simp only [List.length_cons] at h
      exact depsGOk_spec (g := g) (i := i + 1) hk.2 s (by omega) (by rw [show i + 1 + s = i + (s + 1) by omega]; exact hg)

theorem Form.inj {t : Ty} {c1 c2 : List Value} {c : Value} (h1 : Form t c1 c) (h2 : Form t c2 c) : c1 = c2 := by
  cases t with
  | agg t =>
    have h1 : c = .agg c1.toArray := h1
    have h2 : c = .agg c2.toArray := h2
    rw [h1] at h2
    injection h2 with h2
    simpa using congrArg Array.toList h2
  | _ => exact (show c1 = [c] from h1).trans (show c2 = [c] from h2).symm

theorem argAtM_rep [Glob] (hI : Inv w0 L0 N vs T a w L) {t : Ty} {n : Nat} {x : Operand} {y : t.den} {r n' : Nat} {p : List St} {u : V} {log : List Nat} (h : (argAtM t n x).Runs T (y, r, p, u, n') log) :
    T.getD r .dead = u ∧ t.depth ≤ n' ∧ t.depth ≤ n ∧ t.depth ≠ 0 ∧ (∃ log, (rootD p u).Runs T (none, ⟨n', t, y⟩) log) ∧
      ∃ g cur e, L g = .own r (node [] 0 p).1 ∧ w.heap[g]? = some (.cells cur e (0, 0)) ∧ Form t ((cur.toList.drop (node [] 0 p).2).take t.sz) (a.eval x) ∧ Own w L (SL L none) r n' t y (node [] 0 p).1 (node [] 0 p).2 ((cur.toList.drop (node [] 0 p).2).take t.sz) := by
  unfold argAtM at h
  split at h
  · rename_i s
    obtain ⟨log', rfl, h⟩ := h
    have hs := hI.slots s
    generalize hv : T.getD s .dead = v at h hs
    dsimp only at h
    split at h
    · rename_i r' p' tv
      obtain ⟨log2, rfl, h⟩ := h
      dsimp only at h
      obtain ⟨⟨l, k, t', x'⟩, l1, l2, rfl, h1, h⟩ := M.runs_bind h
      dsimp only at h
      split at h
      · rename_i ht
        subst ht
        split at h
        · rename_i hc
          obtain ⟨rfl, c1, c2, c3, rfl⟩ := hc
          obtain ⟨h, _⟩ := h
          injection h with e1 e2
          injection e2 with e2 e3
          injection e3 with e3 e4
          injection e4 with e4 e5
          subst e1 e2 e3 e4 e5
          have hsl := hI.slots r
          obtain ⟨⟨g, cur, e, k1, k2, k3, k4⟩, _, _, _, hisd⟩ := rootD_inB h1 hsl
          refine ⟨rfl, c1, c2, c3, ⟨_, h1⟩, g, cur, e, k1, k2, ?_, k4⟩
          obtain ⟨_, h2⟩ := hs
          rcases h2 with ⟨h2, _, l0, n0, x0, h3, _⟩ | ⟨g', cur', e', _, j1, j2, j3, j4⟩
          · rw [h3] at hisd
            rcases hisd with h | h
            · simp [V.isD] at h
            · exact absurd h2 h
          · obtain rfl := hI.inj g g' r _ k1 j1
            rw [k2] at j2
            injection j2 with j2
            injection j2 with j2 _ _
            subst j2
            exact j4
        · exact h.elim
      · exact h.elim
    · exact h.elim
  · exact h.elim

theorem argsAtM_rep [Glob] (hI : Inv w0 L0 N vs T a w L) : {ps : List (Ty × Mode)} → {i : Nat} → {xs : List Operand} → {A : ArgsA ps} → {log : List Nat} → (argsAtM C i ps xs).Runs T A log →
    (∀ r ∈ A.ls, (T.getD r .dead).deep = true) ∧
    (∀ m ∈ A.mu, i ≤ m.i ∧ ∃ n y, ps[m.i - i]? = some (m.t, .mut n) ∧ m.t.depth ≤ n ∧ m.t.depth ≤ m.n' ∧ m.t.depth ≠ 0 ∧ T.getD m.r .dead = m.u ∧ (∃ log, (rootD m.p m.u).Runs T (none, ⟨m.n', m.t, y⟩) log) ∧
      ∃ g cur e c, L g = .own m.r (node [] 0 m.p).1 ∧ w.heap[g]? = some (.cells cur e (0, 0)) ∧ (xs.map a.eval)[m.i - i]? = some c ∧ Form m.t ((cur.toList.drop (node [] 0 m.p).2).take m.t.sz) c) ∧
    (∀ j t n, ps[j]? = some (t, .mut n) → ∃ m ∈ A.mu, m.i = i + j) ∧
    ∀ L1 : Nat → Lab, (∀ k, L k = .stable → L1 k = .stable) → (∀ k r q, r ∈ A.ls → L k = .own r q → L1 k = .stable) →
      (∀ k m z rest, m ∈ A.mu → L k = .own m.r ((node [] 0 m.p).1 ++ ((node [] 0 m.p).2 + z) :: rest) → z < m.t.sz → L1 k = .own m.i (z :: rest)) → ArgsRep w L1 i ps A.x (xs.map a.eval)
  | [], i, [], A, log, h => by
    obtain ⟨rfl, _⟩ := h
    exact ⟨by simp, by simp, by simp, fun _ _ _ _ => rfl⟩
  | (t, .ro) :: ps, i, x :: xs, A, log, h => by
    simp only [argsAtM] at h
    obtain ⟨⟨y, ls⟩, l1, l2, rfl, h1, h⟩ := M.runs_bind h
    obtain ⟨A', l3, l4, rfl, h2, h⟩ := M.runs_bind h
    obtain ⟨rfl, _⟩ := h
    obtain ⟨cells, k1, k2, k3⟩ := argM_rep hI h1
    obtain ⟨j1, j2, j4, j3⟩ := argsAtM_rep hI h2
    refine ⟨fun r hr => ?_, fun m hm => ?_, fun j t' n hj => ?_, fun L1 H1 H2 H3 => ?_⟩
    · rcases List.mem_append.1 hr with hr | hr
      · exact k2 r hr
      · exact j1 r hr
    · obtain ⟨hi, n', y', e1, e2, e3, e4, e5, e6, g, cur, e, c, f1, f2, f3, f4⟩ := j2 m hm
      have : m.i - i = (m.i - (i + 1)) + 1 := by omega
      exact ⟨by omega, n', y', by rw [this]; simpa using e1, e2, e3, e4, e5, e6, g, cur, e, c, f1, f2, by rw [this]; simpa using f3, f4⟩
    · cases j with
      | zero => simp at hj
      | succ j =>
        obtain ⟨m, hm, he⟩ := j4 j t' n (by simpa using hj)
        exact ⟨m, hm, by omega⟩
    · exact ⟨a.eval x, _, cells, rfl, k1, Own.of_rd (k3 _ H1 (fun k r q hr hk => H2 k r q (List.mem_append_left _ hr) hk)), j3 L1 H1 (fun k r q hr hk => H2 k r q (List.mem_append_right _ hr) hk) H3⟩
  | (t, .mut n) :: ps, i, x :: xs, A, log, h => by
    simp only [argsAtM] at h
    obtain ⟨⟨y, r0, p0, u0, n0⟩, l1, l2, rfl, h1, h⟩ := M.runs_bind h
    obtain ⟨A', l3, l4, rfl, h2, h⟩ := M.runs_bind h
    obtain ⟨rfl, _⟩ := h
    obtain ⟨k1, k2, k3, k4, k5, g, cur, e, k6, k7, k8, k9⟩ := argAtM_rep hI h1
    obtain ⟨j1, j2, j4, j3⟩ := argsAtM_rep hI h2
    refine ⟨j1, fun m hm => ?_, fun j t' n' hj => ?_, fun L1 H1 H2 H3 => ?_⟩
    · rcases List.mem_cons.1 hm with hm | hm
      · subst hm
        exact ⟨Nat.le_refl _, n, y, by simp, k3, k2, k4, k1, k5, g, cur, e, a.eval x, k6, k7, by simp, k8⟩
      · obtain ⟨hi, n', y', e1, e2, e3, e4, e5, e6, g, cur, e, c, f1, f2, f3, f4⟩ := j2 m hm
        have : m.i - i = (m.i - (i + 1)) + 1 := by omega
        exact ⟨by omega, n', y', by rw [this]; simpa using e1, e2, e3, e4, e5, e6, g, cur, e, c, f1, f2, by rw [this]; simpa using f3, f4⟩
    · cases j with
      | zero => exact ⟨_, List.mem_cons_self .., rfl⟩
      | succ j =>
        obtain ⟨m, hm, he⟩ := j4 j t' n' (by simpa using hj)
        exact ⟨m, List.mem_cons_of_mem _ hm, by omega⟩
    · refine ⟨a.eval x, _, _, rfl, k8, ?_, j3 L1 H1 H2 (fun k m z rest hm hk hz => H3 k m z rest (List.mem_cons_of_mem _ hm) hk hz)⟩
      refine Own.cap k2 k3 (Own.move (fun k hk => ⟨?_, rfl⟩) (fun k d rest hd hk => ⟨?_, rfl⟩) k9)
      · rcases hk with hk | ⟨_, _, hk, _⟩
        · exact H1 k hk
        · cases hk
      · have := H3 k ⟨i, r0, p0, u0, n0, t⟩ d rest (List.mem_cons_self ..) hk hd
        simpa using this
  | [], _, _ :: _, _, _, h => h.elim
  | (_, .ro) :: _, _, [], _, _, h => h.elim
  | (_, .mut _) :: _, _, [], _, _, h => h.elim
  | (_, .ptr _) :: _, _, [], _, _, h => h.elim
  | (_, .ptr _) :: _, _, _ :: _, _, _, h => h.elim

theorem argsAtM_noptr {C : Ctx} : {ps : List (Ty × Mode)} → {i : Nat} → {xs : List Operand} → {A : ArgsA ps} → {log : List Nat} → (argsAtM C i ps xs).Runs T A log → ∀ (j : Nat) (t : Ty) (n : Nat), ps[j]? ≠ some (t, .ptr n)
  | [], _, _, _, _, _, j, t, n => by simp
  | (t0, .ro) :: ps, i, x :: xs, A, log, h, j, t, n => by
    simp only [argsAtM] at h
    obtain ⟨_, _, _, _, _, h⟩ := M.runs_bind h
    obtain ⟨_, _, _, _, h2, _⟩ := M.runs_bind h
    cases j with
    | zero => simp
    | succ j => simpa using argsAtM_noptr h2 j t n
  | (t0, .mut n0) :: ps, i, x :: xs, A, log, h, j, t, n => by
    simp only [argsAtM] at h
    obtain ⟨_, _, _, _, _, h⟩ := M.runs_bind h
    obtain ⟨_, _, _, _, h2, _⟩ := M.runs_bind h
    cases j with
    | zero => simp
    | succ j => simpa using argsAtM_noptr h2 j t n
  | (_, .ro) :: _, _, [], _, _, h, _, _, _ => h.elim
  | (_, .mut _) :: _, _, [], _, _, h, _, _, _ => h.elim
  | (_, .ptr _) :: _, _, [], _, _, h, _, _, _ => h.elim
  | (_, .ptr _) :: _, _, _ :: _, _, _, h, _, _, _ => h.elim

theorem argsAtM_mode [Glob] {C : Ctx} {ps : List (Ty × Mode)} {i : Nat} {xs : List Operand} {A : ArgsA ps} {log : List Nat} (h : (argsAtM C i ps xs).Runs T A log) {j : Nat} {t : Ty} {m : Mode} (hj : ps[j]? = some (t, m)) (hm : m ≠ .ro) : ∃ n, m = .mut n := by
  match m, hj, hm with
  | .ro, _, hm => exact absurd rfl hm
  | .mut n, _, _ => exact ⟨n, rfl⟩
  | .ptr n, hj, _ => exact absurd hj (argsAtM_noptr h j t n)

theorem step_callAt [Glob] (hI : Inv w0 L0 N vs T a w L) {tab : Tab} (htab : TabOk P tab) {o : Oper} {f : FuncId} {args : Array Operand} {ats : Array TypeId} {d : Nat} {ups : List (Nat × V)} {log : List Nat}
    (ho : o.op = .call { callee := .value (.func f), args, argTypes := ats }) (hdst : o.dst = some d) (hd : d < N) (hid : (T.getD d .dead).idle = true)
    (h : (callAtM C tab vs N d f args.toList).Runs T ups log) : Step P o w0 L0 N vs (setAll T ups) a w := by
  unfold callAtM at h
  split at h
  · exact h.elim
  · rename_i F hF
    obtain ⟨⟨fn, hfn, hname, hbody⟩, hok⟩ := htab f F hF
    have hb := M.runs_bind h
    clear h
    obtain ⟨A, l1, l2, rfl, h1, h⟩ := hb
    obtain ⟨hls, hmu, hmall, hargs⟩ := argsAtM_rep hI h1
    have hrun := Go.Conc.run_call_body (P := P) (a := a) (w := w) ho hfn hname hbody
    obtain ⟨Fps, Frs, Fsem⟩ := F
    dsimp only at h hargs hmall hmu hok A
    split at h
    · rename_i m t0 n0 hA
      cases hc : (A.ls.contains m.r || !decide (m.r < N) || !decide (t0.depth = 0) || !decide (n0 < 1000)) with
      | true => rw [hc] at h; exact h.elim
      | false =>
        rw [hc] at h
        simp only [Bool.or_eq_false_iff, Bool.not_eq_false', decide_eq_true_eq] at hc
        obtain ⟨⟨⟨hc1, hrN⟩, ht0⟩, hn0⟩ := hc
        have hrls : m.r ∉ A.ls := fun hm => by rw [List.contains_iff_mem.2 hm] at hc1; cases hc1
        obtain ⟨res, hsem, h⟩ := h
        dsimp only at h
        split at h
        · rename_i n1 t1 x1 n2 t' y' hv hu'
          split at h
          · rename_i htt
            subst htt
            split at h
            · rename_i ht1
              obtain ⟨u2, l3, l4, rfl, hm2, h⟩ := M.runs_bind h
              obtain ⟨Ts, l5, l6, rfl, hall, hdok, hups⟩ := M.runs_bind h
              obtain ⟨rfl, _⟩ := hups
              have hTs : Ts = T := by rw [allM_runs hall (by rw [Nat.zero_add, hI.len])]; rfl
              subst hTs
              obtain ⟨_, n, y, h2, h3, h4, h5, h6, ⟨logz, hz⟩, g0, cur, e, c, k1, k2, k3, k4⟩ := hmu m (by rw [hA]; simp)
              simp only [Nat.sub_zero] at h2 k3
              have hil : m.i < Fps.length := (List.getElem?_eq_some_iff.1 h2).1
              have hpl : ∀ (j : Nat) (t : Ty) (n : Nat), Fps[j]? = some (t, Mode.mut n) → j = m.i := by
                intro j t n hj
                obtain ⟨m', hm', he⟩ := hmall j t n hj
                rw [hA] at hm'
                rw [List.mem_singleton.1 hm'] at he
                omega
              have hsl := hI.slots m.r
              rw [h6] at hsl
              obtain ⟨_, _, _, howns, _⟩ := rootD_inB hz hsl
              have hrd : m.r ≠ d := idle_ne hid (by rw [h6]; exact howns)
              have hlegit : Legit w (fun k => toP m.r (node [] 0 m.p).1 (node [] 0 m.p).2 m.t.sz m.i A.ls (L k)) Fps := by
                refine ⟨fun k hk => by rw [hI.free k hk]; rfl, fun k k' s q h h' => ?_, fun k s q h => ?_, Glob.keep hI.fr.glob fun k hk h0 => ⟨?_, (hI.fr.keep k hk h0).2⟩⟩
                · obtain ⟨y1, r1, e1, e2, e3⟩ := toP_own h
                  obtain ⟨y2, r2, e4, e5, e6⟩ := toP_own h'
                  rw [e2] at e5
                  injection e5 with e5 e7
                  subst e5 e7
                  exact hI.inj k k' _ _ e3 e6
                · obtain ⟨y1, r1, rfl, e2, e3⟩ := toP_own h
                  exact ⟨m.t, .mut n, h2, by simp only [Mode.owned, Bool.and_eq_true, bne_iff_ne]; omega⟩
                · rw [(hI.fr.keep k hk h0).1]
                  rcases h0 with h0 | h0 <;> rw [h0] <;> simp [toP]
              have hrep := hargs (fun k => toP m.r (node [] 0 m.p).1 (node [] 0 m.p).2 m.t.sz m.i A.ls (L k)) (fun k hk => by rw [hk]; rfl) (fun k r q hr hk => by
                rw [hk]
                unfold toP
                dsimp only
                rw [if_neg (fun e0 : r = m.r => hrls (by rw [← e0]; exact hr)), if_pos (by simpa using hr)]) (fun k m' z rest hm' hk hz' => by
                rw [hA] at hm'
                obtain rfl := List.mem_singleton.1 hm'
                rw [hk]
                exact toP_at hz')
              intro K Q hK
              unfold Oper.wp
              rw [hrun, Oper.upon_enter]
              refine Calls.mono (hok A.x res hsem w _ (args.map a.eval) hlegit (by simpa using hrep)) ?_
              rintro e' w' ⟨cs, L', rfl, hleft, hres, hmr⟩
              dsimp only
              rw [hdst]
              have hT' : setAll Ts (((m.r, u2) :: depsG (goesAt m.r d m.u) 0 Ts) ++ [(d, V.d none n1 t1 x1)]) = (setAll Ts ((m.r, u2) :: depsG (goesAt m.r d m.u) 0 Ts)).set d (V.d none n1 t1 x1) := by
                rw [setAll_append]; rfl
              have hlen1 : (setAll Ts ((m.r, u2) :: depsG (goesAt m.r d m.u) 0 Ts)).length = N := by rw [length_setAll, hI.len]
              have hTo : ∀ s, s ≠ d → (setAll Ts (((m.r, u2) :: depsG (goesAt m.r d m.u) 0 Ts) ++ [(d, V.d none n1 t1 x1)])).getD s .dead = (setAll Ts ((m.r, u2) :: depsG (goesAt m.r d m.u) 0 Ts)).getD s .dead := by
                intro s hs
                rw [hT', getD_set, if_neg (fun e => hs e.1)]
              have hkeys : ∀ s v, (s, v) ∈ ((m.r, u2) :: depsG (goesAt m.r d m.u) 0 Ts) → (s = m.r ∧ v = u2) ∨ (v = .dead ∧ s ≠ m.r ∧ goesAt m.r d m.u s (Ts.getD s .dead) = true) := by
                intro s v hm'
                rcases List.mem_cons.1 hm' with hm' | hm'
                · injection hm' with h1 h2
                  exact .inl ⟨h1, h2⟩
                · obtain ⟨h1, _, _, h2⟩ := (depsG_mem s v).1 hm'
                  simp only [Nat.sub_zero] at h2
                  refine .inr ⟨h1, ?_, h2⟩
                  rintro rfl
                  simp [goesAt] at h2
              have hTr : (setAll Ts ((m.r, u2) :: depsG (goesAt m.r d m.u) 0 Ts)).getD m.r .dead = u2 := by
                refine getD_setAll_mem (by rw [hI.len]; exact hrN) (by simp) (fun v hm' => ?_)
                rcases hkeys m.r v hm' with ⟨_, h⟩ | ⟨_, h, _⟩
                · exact h
                · exact absurd rfl h
              have hgo : ∀ s, s ≠ d → s ≠ m.r → (Ts.getD s .dead).on m.r = true → goesAt m.r d m.u s (Ts.getD s .dead) = !keepAt m.u (Ts.getD s .dead) := by
                intro s h1 h2 h3
                unfold goesAt
                rw [h3]
                simp [h1, h2]
              refine hK _ _ _ (Inv.calledAt (d := d) (c := resVal cs) (V0 := V.d none n1 t1 x1) hI hd hid h6 hz hm2 h3 h4 k1 k2 hleft ?_ ?_ (by rw [length_setAll, hI.len]) ?_ ?_ (fun r => rfl) ?_ ?_ ?_)
              · intro k s q hk
                rcases hleft.owner k s q hk with ⟨_, t, n, h, h9⟩ | ⟨t, md, h, hmd⟩
                · simp only [List.mem_singleton, Prod.mk.injEq] at h
                  rcases h9 with h9 | h9
                  · exact absurd (by rw [h.1]; exact ht0) h9.2
                  · omega
                · obtain ⟨n, rfl⟩ := argsAtM_mode h1 h hmd
                  exact hpl s t n h
              · have hmr2 : MutRep w' L' 0 Fps res.2 (args.toList.map a.eval) := by simpa using hmr
                obtain ⟨j, t', n', y9, c', cells, m1, m2, m3, m4, m5⟩ := mutV_rep hmr2 hu'
                have hji := hpl j t' n' m1
                subst hji
                rw [h2] at m1
                injection m1 with m1
                injection m1 with m1 m1'
                injection m1' with m1'
                subst m1'
                cases m2
                rw [k3] at m3
                injection m3 with m3
                subst m3
                rw [Nat.zero_add] at m5
                have : cells = (cur.toList.drop (node [] 0 m.p).2).take m.t.sz := Form.inj m4 k4
                rw [← this]
                exact m5
              · rw [hTo m.r hrd, hTr]
              · rw [hT', getD_set, if_pos ⟨rfl, by rw [hlen1]; exact hd⟩]
              · intro L2 tm'
                have hres2 := hres
                have hres2 := (ResTop.low (rs := [(t0, n0)]) (decide_eq_true hn0)).1 hres2
                simp only [ResRep] at hres2
                obtain ⟨c', cs', cells, rfl, r1, r2, rfl⟩ := hres2
                have hv2 : some (V.d none n0 t0 res.1.1) = some (V.d none n1 t1 x1) := by
                  simp only [resV] at hv
                  rwa [if_neg (by omega), if_pos (by rw [ht0]; exact Nat.zero_le _)] at hv
                cases hv2
                exact ⟨by simp, cells, r1, Own.flat ht0 r2⟩
              · intro z hzd hzr hon
                rw [hTo z hzd]
                have hzN : z < N := by
                  rcases Nat.lt_or_ge z N with h | h
                  · exact h
                  · rw [getD_out (by rw [hI.len]; exact h)] at hon; simp [V.on, V.root] at hon
                have hgz := hgo z hzd hzr hon
                cases hk : keepAt m.u (Ts.getD z .dead) with
                | true =>
                  refine .inr ⟨getD_setAll _ _ _ (fun hm' => ?_), rfl⟩
                  obtain ⟨uu, hu, he⟩ := List.mem_map.1 hm'
                  rcases hkeys z uu.2 (by rw [← he]; exact hu) with ⟨h, _⟩ | ⟨_, _, h⟩
                  · exact hzr h
                  · rw [hgz, hk] at h; cases h
                | false =>
                  rw [hk] at hgz
                  refine .inl ⟨getD_setAll_mem (by rw [hI.len]; exact hzN) ?_ (fun v hm' => ?_), ?_⟩
                  · rw [List.mem_map]
                    exact ⟨(z, .dead), List.mem_cons_of_mem _ ((depsG_mem z .dead).2 ⟨rfl, Nat.zero_le _, by rw [Nat.zero_add, hI.len]; exact hzN, by rw [Nat.sub_zero]; exact hgz⟩), rfl⟩
                  · rcases hkeys z v hm' with ⟨h, _⟩ | ⟨h, _⟩
                    · exact absurd h hzr
                    · exact h
                  · exact depsGOk_spec hdok z (by rw [hI.len]; exact hzN) (by rw [Nat.zero_add]; exact hgz)
              · intro z hzd hzr hon
                rw [hTo z hzd]
                refine getD_setAll _ _ _ (fun hm' => ?_)
                obtain ⟨uu, hu, he⟩ := List.mem_map.1 hm'
                rcases hkeys z uu.2 (by rw [← he]; exact hu) with ⟨h, _⟩ | ⟨_, _, h⟩
                · exact hzr h
                · unfold goesAt at h
                  rw [hon] at h
                  simp at h
            · exact h.elim
          · exact h.elim
        · exact h.elim
    · exact h.elim

theorem step_callX [Glob] (hI : Inv w0 L0 N vs T a w L) {tab : Tab} (htab : TabOk P tab) {o : Oper} {f : FuncId} {args : Array Operand} {ats : Array TypeId} {d : Nat} {ups : List (Nat × V)} {log : List Nat}
    (ho : o.op = .call { callee := .value (.func f), args, argTypes := ats }) (hdst : o.dst = some d) (hd : d < N) (hid : (T.getD d .dead).idle = true)
    (h : (callXM C tab vs N d f args.toList).Runs T ups log) : Step P o w0 L0 N vs (setAll T ups) a w := by
  unfold callXM at h
  split at h
  · exact h.elim
  · split at h
    · rename_i s _
      obtain ⟨log1, rfl, h⟩ := h
      generalize T.getD s .dead = v at h
      dsimp only at h
      split at h
      · obtain ⟨log2, rfl, h⟩ := h
        dsimp only at h
        generalize (V.isD _ && List.isEmpty _) = b at h
        cases b with
        | true => exact step_call hI htab ho hdst hd hid h
        | false => exact step_callAt hI htab ho hdst hd hid h
      · exact step_call hI htab ho hdst hd hid h
    · exact step_call hI htab ho hdst hd hid h

end
end Go.Proofs.YtamkkancfmbanaaDoor.P.Am

set_option linter.unusedVariables false
set_option linter.unusedSimpArgs false
namespace Go.Proofs.YtamkkancfmbanaaDoor.P.Am

/-! ## 49. A store of plain data deep in a variable -/
def okDeep (r : Nat) (v : V) : Bool := !v.deepOn r || (match v with
  | .ptr _ _ _ => true
  | .view _ p _ => shallow p
  | _ => false)

def kidsD {α : Type} (r : Nat) : List Nat → M α → M α
  | [], m => m
  | k :: l, m => .get k fun v => .chk (okDeep r v) (kidsD r l m)

def storeDeepM (C : Ctx) (N : Nat) (kids : List Nat) (X : TypeId) (r : Nat) (p : List St) (u : V) (x : Operand) (m : M (List (Nat × V))) : M (List (Nat × V)) :=
  (rootD p u).bind fun z =>
    if z.2.t.depth = 0 ∧ u.boxy = true ∧ shallow p = false ∧ C.ty X = some z.2.t ∧ (u.root != some r) = true ∧ r < N ∧ r < 100000 then
      (opnd C X x).bind fun v => match v with
      | .d none _ t' y => if h : t' = z.2.t then (modRoot p u z.2.t (h ▸ y)).bind fun u' => kidsD r kids (.ask (bareKey r (maskOf false (r :: kids))) (.ret [(r, u')])) else .fail
      | _ => .fail
    else m

section
variable {P : Program} {C : Ctx} {w w' w0 : World} {S S' : Nat → Prop} {L L' L0 : Nat → Lab} {s N : Nat} {vs : List Nat} {T T' : List V} {tm tm' : Array Value} {a : Act}

theorem kidsD_runs {α : Type} {r : Nat} {m : M α} {x : α} : {l : List Nat} → {log : List Nat} → (kidsD r l m).Runs T x log → (∀ k ∈ l, okDeep r (T.getD k .dead) = true) ∧ ∃ log', m.Runs T x log'
  | [], log, h => ⟨by simp, log, h⟩
  | k :: l, log, h => by
    obtain ⟨log', rfl, hc, h⟩ := h
    obtain ⟨h1, h2⟩ := kidsD_runs (l := l) h
    refine ⟨fun k' hk' => ?_, h2⟩
    rcases List.mem_cons.1 hk' with rfl | hk'
    · exact hc
    · exact h1 k' hk'

theorem step_storeDeep [Glob] (hI : Inv w0 L0 N vs T a w L) (hC : CtxOk P C) {o : Oper} {X : TypeId} {t r : Nat} {kids : List Nat} {p : List St} {u : V} {x : Operand} {m : M (List (Nat × V))} {ups : List (Nat × V)} {log : List Nat} (ho : o.op = .store X (.tmp t) x) (hdst : o.dst = none)
    (ht : addrOf t (T.getD t .dead) = some (r, p)) (hev : ∀ r p, addrOf t (T.getD t .dead) = some (r, p) → ∃ g, a.eval (.tmp t) = .pointer (some ⟨g, (node [] 0 p).2, none⟩) ∧ L g = .own r (node [] 0 p).1)
    (hr : T.getD r .dead = u) (h : (storeDeepM C N kids X r p u x m).Runs T ups log) (hm : ∀ log, m.Runs T ups log → Step P o w0 L0 N vs (setAll T ups) a w) : Step P o w0 L0 N vs (setAll T ups) a w := by
  obtain ⟨⟨l, n', t', x'⟩, l1, l2, rfl, hz, h⟩ := M.runs_bind h
  dsimp only at h
  split at h
  · rename_i hc
    obtain ⟨hd, hub, hpd, hX, hself, hrN, hr5⟩ := hc
    clear hm
    obtain ⟨v, l3, l4, rfl, hv, h⟩ := M.runs_bind h
    split at h
    · rename_i k tv y
      split at h
      · rename_i htv
        subst htv
        obtain ⟨u', l5, l6, rfl, hmo, h⟩ := M.runs_bind h
        obtain ⟨hkids, log2, h⟩ := kidsD_runs h
        obtain ⟨⟨hq, _⟩, log3, rfl, h⟩ := h
        obtain ⟨rfl, _⟩ := h
        have hok : ∀ z, z ≠ r → okDeep r (T.getD z .dead) = true := by
          intro z hz
          by_cases hm : z ∈ kids
          · exact hkids z hm
          · have := ask_bare hr5 hq z (maskOf_bit (by simp [hz, hm]))
            rw [maskOf_zero] at this
            have this : (T.getD z .dead).deepOn r = false := this
            unfold okDeep
            rw [this]; rfl
        obtain ⟨g, hev1, hg⟩ := hev r p ht
        have hsl := hI.slots r
        rw [hr] at hsl
        obtain ⟨⟨g', cur, e, k1, k2, k3, k4⟩, _, _, howns, hisd⟩ := rootD_inB hz hsl
        obtain rfl := hI.inj g g' r _ hg k1
        have hud : u.isD = false := by cases u <;> simp [V.boxy, V.isD] at hub ⊢
        have hval : ∃ cs s0, Form tv cs (a.eval x) ∧ Own w L (SL L none) s0 k tv y [] 0 cs := by
          rcases opnd_rep hI hv with ⟨s, rfl, _, hs⟩ | ⟨_, hs⟩
          · obtain ⟨_, cs, hf, how⟩ := hs
            exact ⟨cs, s, hf, how⟩
          · obtain ⟨_, cs, hf, how⟩ := hs L T a.tmps 0 w
            exact ⟨cs, 0, hf, how⟩
        obtain ⟨cs, s0, hf, how⟩ := hval
        have hone := Own.one how
        have hlen := Own.len how
        have hrun : (execOp a.eval o).run P w = .ok .skip (w.setRow g (putCells cur (node [] 0 p).2 cs)) := by
          simp [execOp, ho, hev1, run_store_cells (hC X _ hX) k2 hf hone hlen k3]
        have hTr : (setAll T [(r, u')]).getD r .dead = u' := by
          show (T.set r u').getD r .dead = u'
          rw [getD_set, if_pos ⟨rfl, by rw [hI.len]; exact hrN⟩]
        have hTo : ∀ z, z ≠ r → (setAll T [(r, u')]).getD z .dead = T.getD z .dead := by
          intro z hz
          show (T.set r u').getD z .dead = _
          rw [getD_set, if_neg (fun h => hz h.1)]
        intro K Q hK
        unfold Oper.wp
        rw [hrun, Oper.upon_skip, hdst]
        refine hK a _ _ (Inv.store (m := n') (src := none) hI hr hz hmo (by simpa using hself) hg k2 k3 hlen (by simp) (by rw [length_setAll, hI.len]) hTr ?_ (fun z hz _ _ => hTo z hz) (Own.flat hd how))
        intro z hz _ hon
        refine .inr ⟨hTo z hz, ?_⟩
        have hk := hok z hz
        unfold okDeep V.deepOn at hk
        rw [hon, Bool.true_and] at hk
        generalize T.getD z .dead = vz at hk hon
        cases vz with
        | ptr r2 p2 t2 => exact .inl rfl
        | view r2 p2 t2 =>
          have : r2 = r := by simpa [V.on, V.root] using hon
          subst this
          exact .inr ⟨rfl, hpd, hud, p2, t2, rfl, by simpa using hk⟩
        | _ => simp at hk
      · exact h.elim
    · exact h.elim
  · exact hm _ h

end
end Go.Proofs.YtamkkancfmbanaaDoor.P.Am

set_option linter.unusedVariables false
set_option linter.unusedSimpArgs false
namespace Go.Proofs.YtamkkancfmbanaaDoor.P.Am

/-! ## 54. An owned temporary is given up to be read, ahead of a call whose result may lean on it -/
def iceFor (N : Nat) : List Nat → M (List (Nat × V)) → M (List (Nat × V))
  | [], m => m
  | s :: l, m => .get s fun v => match v with
    | .d none n t x =>
      if n ≠ 0 ∧ t.depth ≠ 0 ∧ s < N then
        bareM true s s [] (((iceFor N l m).over [(s, .d none 0 t x)]).bind fun ups => .ret ((s, .d none 0 t x) :: ups))
      else iceFor N l m
    | _ => iceFor N l m

section
variable {P : Program} {C : Ctx} {w w' w0 : World} {L L' L0 : Nat → Lab} {s N : Nat} {vs : List Nat} {a : Act}

theorem iceFor_runs [Glob] {m : M (List (Nat × V))} : {l : List Nat} → {T : List V} → {L : Nat → Lab} → {ups : List (Nat × V)} → {log : List Nat} → Inv w0 L0 N vs T a w L → (iceFor N l m).Runs T ups log →
    ∃ T1 L1 ups2 log2, Inv w0 L0 N vs T1 a w L1 ∧ m.Runs T1 ups2 log2 ∧ setAll T ups = setAll T1 ups2
  | [], T, L, ups, log, hI, h => ⟨T, L, ups, log, hI, h, rfl⟩
  | s :: l, T, L, ups, log, hI, h => by
    simp only [iceFor] at h
    obtain ⟨log', rfl, h⟩ := h
    dsimp only at h
    split at h
    · rename_i n t x hv
      split at h
      · rename_i hc
        obtain ⟨hn, hd, hsN⟩ := hc
        obtain ⟨hbare, log2, h⟩ := bareM_runs h
        obtain ⟨ups2, l3, l4, rfl, h1, h2⟩ := M.runs_bind h
        obtain ⟨rfl, _⟩ := h2
        have hsl : s < T.length := by rw [hI.len]; exact hsN
        have hlook : ∀ z, (T.set s (.d none 0 t x)).getD z .dead = (lookO [(s, .d none 0 t x)] z).getD (T.getD z .dead) := fun z => by
          simp only [lookO]
          rw [getD_set]
          by_cases h1 : z = s
          · subst h1; simp [hsl]
          · have e1 : (s == z) = false := by simpa using Ne.symm h1
            rw [e1]; simp [h1]
        obtain ⟨log3, h1⟩ := over_runs (T' := T.set s (.d none 0 t x)) (by simp) (fun z hz => by
          simp only [List.map_cons, List.map_nil, List.mem_cons, List.not_mem_nil, or_false] at hz
          rw [hz]; exact hsl) hlook _ h1
        obtain ⟨L1, hI1⟩ := Inv.freeze (T' := T.set s (.d none 0 t x)) hI (X := fun z => z == s) (lev := fun _ => 0) (fun z r hr => by
            have hr : r = s := by simpa using hr
            subst hr
            by_cases hz : z = r
            · subst hz; rw [hv]; rfl
            · simpa using hbare z hz) (fun z hz => by
            have hz : z = s := by simpa using hz
            subst hz; rw [hv]; rfl) (fun z _ => Nat.zero_le _) (by simp [hI.len]) (fun z => by
            rw [getD_set]
            by_cases hz : z = s
            · subst hz; rw [if_pos ⟨rfl, hsl⟩, hv]; simp [frzV]
            · have : (z == s) = false := by simpa using hz
              rw [if_neg (fun h => hz h.1), this]; rfl)
        obtain ⟨T1, L2, ups3, log4, k1, k2, k3⟩ := iceFor_runs hI1 h1
        exact ⟨T1, L2, ups3, log4, k1, k2, k3⟩
      · exact iceFor_runs hI h
    · exact iceFor_runs hI h
end
end Go.Proofs.YtamkkancfmbanaaDoor.P.Am

set_option linter.unusedVariables false
set_option linter.unusedSimpArgs false
namespace Go.Proofs.YtamkkancfmbanaaDoor.P.Am

/-! ## 55. A call that is given the address of a variable -/
/-- The variable to which a slot's word points: its slot, its level, its type, its data. -/
def boxOf (s : Nat) : V → M (Nat × D)
  | .box none k t' y => .ret (s, ⟨k, t', y⟩)
  | .ptr r [] _ => .get r fun u => match u with
    | .box none k t' y => .ret (r, ⟨k, t', y⟩)
    | _ => .fail
  | _ => .fail

def ptrM (t : Ty) (n : Nat) (x : Operand) : M (t.den × Nat) :=
  match x with
  | .tmp s => .get s fun v => (boxOf s v).bind fun z => if h : z.2.t = t then (if z.2.n = n then .ret (h ▸ z.2.x, z.1) else .fail) else .fail
  | _ => .fail

def argsPM (C : Ctx) : Nat → (ps : List (Ty × Mode)) → List Operand → M (Args ps)
  | _, [], [] => .ret ⟨(), [], []⟩
  | i, (t, .ro) :: ps, x :: xs => (argM C t x).bind fun y => (argsPM C (i + 1) ps xs).bind fun r => .ret ⟨(y.1, r.x), y.2 ++ r.ls, r.mu⟩
  | i, (t, .ptr n) :: ps, x :: xs => (ptrM t n x).bind fun y => (argsPM C (i + 1) ps xs).bind fun r => .ret ⟨(y.1, r.x), r.ls, (y.2, i) :: r.mu⟩
  | _, _, _ => .fail

def mutPV : (ps : List (Ty × Mode)) → (mTy ps).den → Option V
  | [], _ => none
  | (t, .ptr n) :: _, x => some (.box none n t x.1)
  | (_, .mut _) :: _, _ => none
  | (_, .ro) :: ps, x => mutPV ps x

/-- Is all that a pointer's variable holds its own? -/
def fullP : List (Ty × Mode) → Bool
  | [] => true
  | (t, .ptr n) :: ps => decide (t.depth ≤ n) && fullP ps
  | _ :: ps => fullP ps

def goesP (r d : Nat) : Nat → V → Bool := fun z v => v.on r && z != r && z != d

def callPM (C : Ctx) (tab : Tab) (vs : List Nat) (N d : Nat) (f : FuncId) (args : List Operand) : M (List (Nat × V)) :=
  match tab f with
  | none => .fail
  | some F => (argsPM C 0 F.ps args).bind fun A => match A.mu with
    | [(r0, _)] => cond (A.ls.contains r0 || !decide (r0 < N) || !(A.ls.isEmpty || fullP F.ps)) .fail (.bnd (.pair (rTy F.rs) (mTy F.ps)) (F.sem A.x) fun r => match resV vs A.ls F.rs r.1, mutPV F.ps r.2 with
      | some v, some u' => (allM 0 N).bind fun Ts => .chk (depsGOk (goesP r0 d) 0 Ts) (.ret (((r0, u') :: depsG (goesP r0 d) 0 Ts) ++ [(d, v)]))
      | _, _ => .fail)
    | _ => .fail

def anyPtr : List (Ty × Mode) → Bool
  | [] => false
  | (_, .ptr _) :: _ => true
  | _ :: ps => anyPtr ps

/-- A call of any kind. -/
def callYM (C : Ctx) (tab : Tab) (vs : List Nat) (N d : Nat) (f : FuncId) (args : List Operand) : M (List (Nat × V)) :=
  match tab f with
  | none => .fail
  | some F => cond (anyPtr F.ps) (callPM C tab vs N d f args) (callXM C tab vs N d f args)

section
variable {P : Program} {C : Ctx} {w w' w0 : World} {S S' : Nat → Prop} {L L' L0 : Nat → Lab} {s N : Nat} {vs : List Nat} {T T' : List V} {tm tm' : Array Value} {a : Act}

theorem boxOf_rep [Glob] (hI : Inv w0 L0 N vs T a w L) {s r : Nat} {z : D} {log : List Nat} (h : (boxOf s (T.getD s .dead)).Runs T (r, z) log) :
    T.getD r .dead = .box none z.n z.t z.x ∧ a.tmps.getD s undef = a.tmps.getD r undef := by
  have hs := hI.slots s
  generalize hv : T.getD s .dead = v at h hs
  unfold boxOf at h
  split at h
  · obtain ⟨h, _⟩ := h
    injection h with h1 h2
    subst h1 h2
    exact ⟨hv, rfl⟩
  · rename_i r' t'
    obtain ⟨log', rfl, h⟩ := h
    have hr := hI.slots r'
    generalize hu : T.getD r' .dead = u at h hr
    dsimp only at h
    split at h
    · obtain ⟨h, _⟩ := h
      injection h with h1 h2
      subst h1 h2
      obtain ⟨g, e1, e2⟩ := hs
      obtain ⟨_, g', cur, e, e3, e4, _⟩ := hr
      obtain rfl := hI.inj g g' _ _ e2 e4
      exact ⟨hu, by rw [e1, e3]; rfl⟩
    · exact h.elim
  · exact h.elim

theorem ptrM_rep [Glob] (hI : Inv w0 L0 N vs T a w L) {t : Ty} {n : Nat} {x : Operand} {y : t.den} {r : Nat} {log : List Nat} (h : (ptrM t n x).Runs T (y, r) log) :
    T.getD r .dead = .box none n t y ∧ a.eval x = a.tmps.getD r undef := by
  unfold ptrM at h
  split at h
  · rename_i s
    obtain ⟨log', rfl, h⟩ := h
    have hb := M.runs_bind (m := boxOf s (T.getD s .dead)) h
    clear h
    obtain ⟨⟨r', z⟩, l1, l2, rfl, h1, h⟩ := hb
    obtain ⟨k1, k2⟩ := boxOf_rep hI h1
    obtain ⟨n', t', y'⟩ := z
    dsimp only at h k1
    split at h
    · rename_i ht
      subst ht
      split at h
      · rename_i hk
        subst hk
        obtain ⟨h, _⟩ := h
        injection h with h1 h2
        subst h1 h2
        exact ⟨k1, k2⟩
      · exact h.elim
    · exact h.elim
  · exact h.elim

theorem argsPM_rep [Glob] (hI : Inv w0 L0 N vs T a w L) : {ps : List (Ty × Mode)} → {i : Nat} → {xs : List Operand} → {A : Args ps} → {log : List Nat} → (argsPM C i ps xs).Runs T A log →
    (∀ r ∈ A.ls, (T.getD r .dead).deep = true) ∧ (∀ r j, (r, j) ∈ A.mu → i ≤ j ∧ ∃ t n y, ps[j - i]? = some (t, .ptr n) ∧ T.getD r .dead = .box none n t y ∧ (xs.map a.eval)[j - i]? = some (a.tmps.getD r undef)) ∧
    (∀ j t m, ps[j]? = some (t, m) → m ≠ .ro → ∃ r, (r, i + j) ∈ A.mu) ∧
    ∀ L1 : Nat → Lab, (∀ k, L k = .stable → L1 k = .stable) → (∀ k r q, r ∈ A.ls → L k = .own r q → L1 k = .stable) → (∀ k r j q, (r, j) ∈ A.mu → L k = .own r q → L1 k = .own j q) → ArgsRep w L1 i ps A.x (xs.map a.eval)
  | [], i, [], A, log, h => by
    obtain ⟨rfl, _⟩ := h
    exact ⟨by simp, by simp, by simp, fun _ _ _ _ => rfl⟩
  | (t, .ro) :: ps, i, x :: xs, A, log, h => by
    simp only [argsPM] at h
    obtain ⟨⟨y, ls⟩, l1, l2, rfl, h1, h⟩ := M.runs_bind h
    obtain ⟨A', l3, l4, rfl, h2, h⟩ := M.runs_bind h
    obtain ⟨rfl, _⟩ := h
    obtain ⟨cells, k1, k2, k3⟩ := argM_rep hI h1
    obtain ⟨j1, j2, j4, j3⟩ := argsPM_rep hI h2
    refine ⟨fun r hr => ?_, fun r j hm => ?_, fun j t' n hj hne => ?_, fun L1 H1 H2 H3 => ?_⟩
    · rcases List.mem_append.1 hr with hr | hr
      · exact k2 r hr
      · exact j1 r hr
    · obtain ⟨hi, t', n', y', e1, e2, e3⟩ := j2 r j hm
      have : j - i = (j - (i + 1)) + 1 := by omega
      exact ⟨by omega, t', n', y', by rw [this]; simpa using e1, e2, by rw [this]; simpa using e3⟩
    · cases j with
      | zero =>
        simp only [List.getElem?_cons_zero, Option.some.injEq, Prod.mk.injEq] at hj
        exact absurd hj.2.symm hne
      | succ j =>
        obtain ⟨r, hr⟩ := j4 j t' n (by simpa using hj) hne
        exact ⟨r, by rw [show i + (j + 1) = i + 1 + j by omega]; exact hr⟩
    · exact ⟨a.eval x, _, cells, rfl, k1, Own.of_rd (k3 _ H1 (fun k r q hr hk => H2 k r q (List.mem_append_left _ hr) hk)), j3 L1 H1 (fun k r q hr hk => H2 k r q (List.mem_append_right _ hr) hk) H3⟩
  | (t, .ptr n) :: ps, i, x :: xs, A, log, h => by
    simp only [argsPM] at h
    obtain ⟨⟨y, r0⟩, l1, l2, rfl, h1, h⟩ := M.runs_bind h
    obtain ⟨A', l3, l4, rfl, h2, h⟩ := M.runs_bind h
    obtain ⟨rfl, _⟩ := h
    obtain ⟨k1, k4⟩ := ptrM_rep hI h1
    obtain ⟨j1, j2, j4, j3⟩ := argsPM_rep hI h2
    refine ⟨j1, fun r j hm => ?_, fun j t' n' hj hne => ?_, fun L1 H1 H2 H3 => ?_⟩
    · rcases List.mem_cons.1 hm with hm | hm
      · injection hm with e1 e2
        subst e1 e2
        exact ⟨Nat.le_refl _, t, n, y, by simp, k1, by simp [k4]⟩
      · obtain ⟨hi, t', n', y', e1, e2, e3⟩ := j2 r j hm
        have : j - i = (j - (i + 1)) + 1 := by omega
        exact ⟨by omega, t', n', y', by rw [this]; simpa using e1, e2, by rw [this]; simpa using e3⟩
    · cases j with
      | zero => exact ⟨r0, by simp⟩
      | succ j =>
        obtain ⟨r, hr⟩ := j4 j t' n' (by simpa using hj) hne
        exact ⟨r, by rw [show i + (j + 1) = i + 1 + j by omega]; exact List.mem_cons_of_mem _ hr⟩
    · have hs := hI.slots r0
      rw [k1] at hs
      obtain ⟨_, g, cur, e, hf, hL, hg, hz, ho⟩ := hs
      refine ⟨a.eval x, _, rfl, ⟨g, cur, e, by rw [k4]; exact hf, H3 g r0 i _ (by simp) hL, hg, hz, ?_⟩, j3 L1 H1 H2 (fun k r j q hm hk => H3 k r j q (List.mem_cons_of_mem _ hm) hk)⟩
      refine Own.move (fun k hk => ⟨?_, rfl⟩) (fun k d rest _ hk => ⟨H3 k r0 i _ (by simp) hk, rfl⟩) ho
      rcases hk with hk | ⟨_, _, hk, _⟩
      · exact H1 k hk
      · cases hk
  | [], _, _ :: _, _, _, h => h.elim
  | (_, .ro) :: _, _, [], _, _, h => h.elim
  | (_, .mut _) :: _, _, [], _, _, h => h.elim
  | (_, .mut _) :: _, _, _ :: _, _, _, h => h.elim
  | (_, .ptr _) :: _, _, [], _, _, h => h.elim

theorem mutPV_rep : {ps : List (Ty × Mode)} → {i : Nat} → {x : (mTy ps).den} → {cs : List Value} → {v : V} → MutRep w L0 i ps x cs → mutPV ps x = some v →
    ∃ j t n y c, ps[j]? = some (t, .ptr n) ∧ v = .box none n t y ∧ cs[j]? = some c ∧ BoxAt w L0 (fun k => L0 k = .stable) (i + j) n t y c
  | [], _, _, _, _, _, hv => by cases hv
  | (t, .mut n) :: ps, i, x, cs, v, h, hv => by cases hv
  | (t, .ptr n) :: ps, i, x, cs, v, h, hv => by
    simp only [MutRep] at h
    obtain ⟨c, cs', rfl, h1, _⟩ := h
    simp only [mutPV, Option.some.injEq] at hv
    exact ⟨0, t, n, x.1, c, rfl, hv.symm, rfl, h1⟩
  | (t, .ro) :: ps, i, x, cs, v, h, hv => by
    simp only [MutRep] at h
    obtain ⟨c, cs', rfl, h⟩ := h
    simp only [mutPV] at hv
    obtain ⟨j, t', n, y, c', h1, h2, h3, h4⟩ := mutPV_rep h hv
    exact ⟨j + 1, t', n, y, c', by simpa using h1, h2, by simpa using h3, by rw [show i + (j + 1) = i + 1 + j by omega]; exact h4⟩

theorem fullP_spec : {ps : List (Ty × Mode)} → fullP ps = true → ∀ (j : Nat) (t : Ty) (n : Nat), ps[j]? = some (t, .ptr n) → t.depth ≤ n
  | [], _, j, t, n, hj => by simp at hj
  | (t0, .ptr n0) :: ps, h, j, t, n, hj => by
    simp only [fullP, Bool.and_eq_true, decide_eq_true_eq] at h
    cases j with
    | zero =>
      simp only [List.getElem?_cons_zero, Option.some.injEq, Prod.mk.injEq, Mode.ptr.injEq] at hj
      obtain ⟨rfl, rfl⟩ := hj
      exact h.1
    | succ j => exact fullP_spec h.2 j t n (by simpa using hj)
  | (t0, .mut n0) :: ps, h, j, t, n, hj => by
    cases j with
    | zero => simp at hj
    | succ j => exact fullP_spec (ps := ps) h j t n (by simpa using hj)
  | (t0, .ro) :: ps, h, j, t, n, hj => by
    cases j with
    | zero => simp at hj
    | succ j => exact fullP_spec (ps := ps) h j t n (by simpa using hj)

/-- What the callee left in a variable of the caller's, seen by the caller. -/
theorem back_mut [Glob] {r i : Nat} {ls : List Nat} {ps : List (Ty × Mode)} {rs : List (Ty × Nat)} {m d : Nat} (hI : Inv w0 L0 N vs T a w L) (him : i ≠ m) (hleft : Left w w' (fun k => toCallee (some (r, i)) ls (L k)) L' ps rs) :
    (∀ k q', L' k = .own i q' → backLab (some (r, i)) m d L L' k = .own r q') ∧
    ∀ {n : Nat} {t : Ty} {x : t.den} {q : List Nat} {o : Nat} {cs : List Value}, (t.depth ≤ n ∨ ls = []) →
      Own w' L' (fun k => L' k = .stable) i n t x q o cs → Own w' (backLab (some (r, i)) m d L L') (SL (backLab (some (r, i)) m d L L') none) r n t x q o cs := by
  have hown : ∀ k q', L' k = .own i q' → backLab (some (r, i)) m d L L' k = .own r q' := by
    intro k q' hk
    have hp : InPlay (some (r, i)) (L k) := by
      apply Classical.byContradiction
      intro hp
      have hlt : k < w.heap.size := hI.lt (fun e => hp (.inl e))
      have h9 := (hleft.keep k hlt (toCallee_out hp)).1
      rw [hk] at h9
      rcases toCallee_out (ls := ls) hp with h | h <;> rw [h] at h9 <;> cases h9
    rw [backLab_in hp, hk]
    simp [fromCallee, him]
  refine ⟨hown, fun {n t x q o cs} hl h => ?_⟩
  rcases hl with hl | hl
  · exact Own.move (S := fun _ => False) (fun k hk => hk.elim) (fun k dd rest _ hk => ⟨hown k _ hk, rfl⟩) (Own.full hl h)
  · subst hl
    refine Own.move (fun k hk => ⟨.inl ?_, rfl⟩) (fun k dd rest _ hk => ⟨hown k _ hk, rfl⟩) h
    by_cases hp : InPlay (some (r, i)) (L k)
    · rw [backLab_in hp, hk]; rfl
    · have hlt : k < w.heap.size := hI.lt (fun e => hp (.inl e))
      have h9 := (hleft.keep k hlt (toCallee_out hp)).1
      rw [hk] at h9
      rw [backLab_out hp]
      cases hlk : L k with
      | stable => rfl
      | own s q' =>
        rw [hlk] at h9
        unfold toCallee at h9
        dsimp only at h9
        split at h9
        · cases h9
        · simp at h9
      | other => rw [hlk] at h9; cases h9
      | free => exact absurd (.inl hlk) hp

theorem step_callP [Glob] (hI : Inv w0 L0 N vs T a w L) {tab : Tab} (htab : TabOk P tab) {o : Oper} {f : FuncId} {args : Array Operand} {ats : Array TypeId} {d : Nat} {ups : List (Nat × V)} {log : List Nat}
    (ho : o.op = .call { callee := .value (.func f), args, argTypes := ats }) (hdst : o.dst = some d) (hd : d < N) (hid : (T.getD d .dead).idle = true)
    (h : (callPM C tab vs N d f args.toList).Runs T ups log) : Step P o w0 L0 N vs (setAll T ups) a w := by
  unfold callPM at h
  split at h
  · exact h.elim
  · rename_i F hF
    obtain ⟨⟨fn, hfn, hname, hbody⟩, hok⟩ := htab f F hF
    have hb := M.runs_bind h
    clear h
    obtain ⟨A, l1, l2, rfl, h1, h⟩ := hb
    obtain ⟨hls, hmu, hmall, hargs⟩ := argsPM_rep hI h1
    have hrun := Go.Conc.run_call_body (P := P) (a := a) (w := w) ho hfn hname hbody
    have hlsd : ∀ r ∈ A.ls, r ≠ d := fun r hr => idle_ne hid (V.owns_of_deep (hls r hr))
    rcases hmu0 : A.mu with _ | ⟨⟨r0, i⟩, _ | ⟨p2, rest⟩⟩
    · rw [hmu0] at h
      exact h.elim
    · rw [hmu0] at h
      dsimp only at h
      cases hc : (A.ls.contains r0 || !decide (r0 < N) || !(A.ls.isEmpty || fullP F.ps)) with
      | true => rw [hc] at h; exact h.elim
      | false =>
        rw [hc] at h
        obtain ⟨r, hsem, h⟩ := h
        dsimp only at h
        simp only [Bool.or_eq_false_iff, Bool.not_eq_false', decide_eq_true_eq] at hc
        obtain ⟨⟨hc1, hrN⟩, hc2⟩ := hc
        have hrls : r0 ∉ A.ls := fun hm => by rw [List.contains_iff_mem.2 hm] at hc1; cases hc1
        split at h
        · rename_i v u' hv hu'
          obtain ⟨Ts, l3, l4, rfl, hall, hdok, hups⟩ := M.runs_bind h
          obtain ⟨rfl, _⟩ := hups
          have hTs : Ts = T := by rw [allM_runs hall (by rw [Nat.zero_add, hI.len])]; rfl
          subst hTs
          obtain ⟨_, t, n, y, h2, h5, h6⟩ := hmu r0 i (by rw [hmu0]; simp)
          simp only [Nat.sub_zero] at h2 h6
          have hil : i < F.ps.length := (List.getElem?_eq_some_iff.1 h2).1
          have hr0d : r0 ≠ d := idle_ne hid (by rw [h5]; rfl)
          have hpl : ∀ (j : Nat) (t : Ty) (m : Mode), F.ps[j]? = some (t, m) → m ≠ .ro → j = i := by
            intro j t m hj hm
            obtain ⟨r', hr'⟩ := hmall j t m hj hm
            rw [hmu0] at hr'
            simp only [List.mem_singleton, Prod.mk.injEq] at hr'
            omega
          have hlegit : Legit w (fun k => toCallee (some (r0, i)) A.ls (L k)) F.ps := by
            refine ⟨fun k hk => by rw [hI.free k hk]; rfl, fun k k' s q h h' => ?_, fun k s q h => ?_, Glob.keep hI.fr.glob fun k hk h0 => ⟨?_, (hI.fr.keep k hk h0).2⟩⟩
            · obtain ⟨r1, e1, e2⟩ := toCallee_own h
              obtain ⟨r2, e3, e4⟩ := toCallee_own h'
              rw [e1] at e3
              injection e3 with e3
              injection e3 with e3 _
              subst e3
              exact hI.inj k k' _ _ e2 e4
            · obtain ⟨r1, e1, e2⟩ := toCallee_own h
              injection e1 with e1
              injection e1 with e1 e3
              subst e1 e3
              exact ⟨t, .ptr n, h2, rfl⟩
            · rw [(hI.fr.keep k hk h0).1]
              rcases h0 with h0 | h0 <;> rw [h0] <;> simp [toCallee]
          have hrep := hargs (fun k => toCallee (some (r0, i)) A.ls (L k)) (fun k hk => by rw [hk]; rfl) (fun k r q hr hk => by
            rw [hk]
            unfold toCallee
            dsimp only
            rw [if_neg (fun e : r = r0 => hrls (by rw [← e]; exact hr)), if_pos (by simpa using hr)]) (fun k r j q hm hk => by
            rw [hk]
            rw [hmu0] at hm
            simp only [List.mem_singleton, Prod.mk.injEq] at hm
            obtain ⟨rfl, rfl⟩ := hm
            simp [toCallee])
          intro K Q hK
          unfold Oper.wp
          rw [hrun, Oper.upon_enter]
          refine Calls.mono (hok A.x r hsem w _ (args.map a.eval) hlegit (by simpa using hrep)) ?_
          rintro e w' ⟨cs, L', rfl, hleft, hres, hmr⟩
          dsimp only
          rw [hdst]
          have hmr : MutRep w' L' 0 F.ps r.2 (args.toList.map a.eval) := by simpa using hmr
          refine hK _ _ (backLab (some (r0, i)) F.ps.length d L L') ?_
          have hT' : setAll Ts (((r0, u') :: depsG (goesP r0 d) 0 Ts) ++ [(d, v)]) = (setAll Ts ((r0, u') :: depsG (goesP r0 d) 0 Ts)).set d v := by
            rw [setAll_append]; rfl
          have hlen1 : (setAll Ts ((r0, u') :: depsG (goesP r0 d) 0 Ts)).length = N := by rw [length_setAll, hI.len]
          have hTd : (setAll Ts (((r0, u') :: depsG (goesP r0 d) 0 Ts) ++ [(d, v)])).getD d .dead = v := by
            rw [hT', getD_set, if_pos ⟨rfl, by rw [hlen1]; exact hd⟩]
          have hTo : ∀ s, s ≠ d → (setAll Ts (((r0, u') :: depsG (goesP r0 d) 0 Ts) ++ [(d, v)])).getD s .dead = (setAll Ts ((r0, u') :: depsG (goesP r0 d) 0 Ts)).getD s .dead := by
            intro s hs
            rw [hT', getD_set, if_neg (fun e => hs e.1)]
          have hkeys : ∀ s v, (s, v) ∈ ((r0, u') :: depsG (goesP r0 d) 0 Ts) → (s = r0 ∧ v = u') ∨ (v = .dead ∧ s ≠ r0 ∧ (Ts.getD s .dead).on r0 = true) := by
            intro s v hm
            rcases List.mem_cons.1 hm with hm | hm
            · injection hm with h1 h2
              exact .inl ⟨h1, h2⟩
            · obtain ⟨h1, _, _, h2⟩ := (depsG_mem s v).1 hm
              simp only [Nat.sub_zero, goesP, Bool.and_eq_true, bne_iff_ne] at h2
              exact .inr ⟨h1, h2.1.2, h2.1.1⟩
          have hTr : (setAll Ts ((r0, u') :: depsG (goesP r0 d) 0 Ts)).getD r0 .dead = u' := by
            refine getD_setAll_mem (by rw [hI.len]; exact hrN) (by simp) (fun v hm => ?_)
            rcases hkeys r0 v hm with ⟨_, h⟩ | ⟨_, h, _⟩
            · exact h
            · exact absurd rfl h
          have hTs2 : ∀ s, s ≠ d → s ≠ r0 → (Ts.getD s .dead).on r0 = true → (setAll Ts ((r0, u') :: depsG (goesP r0 d) 0 Ts)).getD s .dead = .dead ∧ (Ts.getD s .dead).owns = false := by
            intro s hsd hs hon
            have hslt : s < N := by
              rcases Nat.lt_or_ge s N with h | h
              · exact h
              · rw [getD_out (by rw [hI.len]; exact h)] at hon; simp [V.on, V.root] at hon
            have hg : goesP r0 d s (Ts.getD s .dead) = true := by
              unfold goesP
              rw [hon]
              simp [hs, hsd]
            refine ⟨getD_setAll_mem (by rw [hI.len]; exact hslt) ?_ (fun v hm => ?_), ?_⟩
            · rw [List.mem_map]
              exact ⟨(s, .dead), List.mem_cons_of_mem _ ((depsG_mem s .dead).2 ⟨rfl, Nat.zero_le _, by rw [Nat.zero_add, hI.len]; exact hslt, by rw [Nat.sub_zero]; exact hg⟩), rfl⟩
            · rcases hkeys s v hm with ⟨h, _⟩ | ⟨h, _⟩
              · exact absurd h hs
              · exact h
            · exact depsGOk_spec hdok s (by rw [hI.len]; exact hslt) (by rw [Nat.zero_add]; exact hg)
          have hTn : ∀ s, s ≠ r0 → (Ts.getD s .dead).on r0 = false → (setAll Ts ((r0, u') :: depsG (goesP r0 d) 0 Ts)).getD s .dead = Ts.getD s .dead := by
            intro s hs hon
            refine getD_setAll _ _ _ (fun hm => ?_)
            obtain ⟨u, hu, he⟩ := List.mem_map.1 hm
            rcases hkeys s u.2 (by rw [← he]; exact hu) with ⟨h, _⟩ | ⟨_, _, h⟩
            · exact hs h
            · rw [hon] at h; cases h
          have hlsame : ∀ r ∈ A.ls, ((setAll Ts (((r0, u') :: depsG (goesP r0 d) 0 Ts) ++ [(d, v)])).getD r .dead).deep = true := by
            intro r hr
            have hrr : r ≠ r0 := fun e => hrls (e ▸ hr)
            have ho := V.owns_of_deep (hls r hr)
            rw [hTo r (hlsd r hr)]
            cases hon : (Ts.getD r .dead).on r0 with
            | false => rw [hTn r hrr hon]; exact hls r hr
            | true =>
              have h := (hTs2 r (hlsd r hr) hrr hon).2
              rw [h] at ho; cases ho
          obtain ⟨j, t', n', y', c', m1, m2, m3, g, cur, e, m4, m5, m6, m7, m8⟩ := mutPV_rep hmr hu'
          have hji := hpl j t' _ m1 (by simp)
          subst hji
          rw [h2] at m1
          injection m1 with m1
          injection m1 with m1 m1'
          injection m1' with m1'
          subst m1 m1'
          rw [h6] at m3
          injection m3 with m3
          subst m3
          rw [Nat.zero_add] at m5 m8
          have hjm : j ≠ F.ps.length := by omega
          obtain ⟨b1, b2⟩ := back_mut (d := d) hI hjm hleft
          obtain ⟨k1, k2, k3⟩ := resV_rep (T' := setAll Ts (((r0, u') :: depsG (goesP r0 d) 0 Ts) ++ [(d, v)])) (d := d) hI hleft rfl hlsame hres hv
          have hfull : t.depth ≤ n ∨ A.ls = [] := by
            simp only [Bool.or_eq_true, List.isEmpty_iff] at hc2
            rcases hc2 with h | h
            · exact .inr h
            · exact .inl (fullP_spec h j t n h2)
          refine Inv.calledG hI hd hid rfl (fun r i h => by injection h with h; injection h with _ h; subst h; exact hil) hleft (by rw [length_setAll, hI.len]) (fun j' t n hj hm => by rw [hpl j' t n hj hm]; rfl) ?_ ?_ ?_ hTd k1 k2 (fun r i h => by injection h with h; injection h with h _; subst h; exact hrls) k3
          · intro r i h
            injection h with h
            injection h with h h'
            subst h h'
            rw [hTo r0 hr0d, hTr, m2]
            exact ⟨by rw [h5]; rfl, rfl, rfl, by simp, g, cur, e, m4, b1 _ _ m5, m6, m7, b2 hfull m8⟩
          · intro s r i h hsd hsr hon
            injection h with h
            injection h with h h'
            subst h h'
            rw [hTo s hsd]
            exact .inl (hTs2 s hsd hsr hon)
          · intro s hsd hs
            obtain ⟨e1, e2⟩ := hs r0 j rfl
            rw [hTo s hsd]
            exact hTn s e1 e2
        · exact h.elim
    · rw [hmu0] at h
      exact h.elim

theorem step_callY [Glob] (hI : Inv w0 L0 N vs T a w L) {tab : Tab} (htab : TabOk P tab) {o : Oper} {f : FuncId} {args : Array Operand} {ats : Array TypeId} {d : Nat} {ups : List (Nat × V)} {log : List Nat}
    (ho : o.op = .call { callee := .value (.func f), args, argTypes := ats }) (hdst : o.dst = some d) (hd : d < N) (hid : (T.getD d .dead).idle = true)
    (h : (callYM C tab vs N d f args.toList).Runs T ups log) : Step P o w0 L0 N vs (setAll T ups) a w := by
  unfold callYM at h
  split at h
  · exact h.elim
  · generalize anyPtr _ = b at h
    cases b with
    | true => exact step_callP hI htab ho hdst hd hid h
    | false => exact step_callX hI htab ho hdst hd hid h

end
end Go.Proofs.YtamkkancfmbanaaDoor.P.Am

set_option linter.unusedVariables false
set_option linter.unusedSimpArgs false
namespace Go.Proofs.YtamkkancfmbanaaDoor.P.Am

/-! ## 30. All steps -/
def idleM (N d : Nat) (m : M (List (Nat × V))) : M (List (Nat × V)) := .get d fun v => .chk (v.idle && decide (d < N)) m

def pureUps (C : Ctx) (vs : List Nat) (d : Nat) (o : Oper) : M (List (Nat × V)) := (pureM C o).bind fun v => .chk (okOn vs v) (.ret [(d, v)])

/-- The greater, or the less, of two integers. -/
def maxUps (C : Ctx) (d : Nat) (mx : Bool) (args : List Operand) : M (List (Nat × V)) :=
  match args with
  | [x, y] => (opnd C 0 x).bind fun u => (opnd C 0 y).bind fun v => match u, v with
    | .d _ _ (.int k) m, .d _ _ (.int _) n => .ret [(d, .d none 0 (.int k) (cond mx (if m < n then n else m) (if n < m then n else m)))]
    | _, _ => .fail
  | _ => .fail

/-- A new variable that holds a value. -/
def boxUps (C : Ctx) (vs : List Nat) (X : TypeId) (d : Nat) (x : Operand) : M (List (Nat × V)) :=
  (opnd C X x).bind fun v => match v with
  | .d l k t y => if C.ty X = some t ∧ (k = 0 ∨ t.depth = 0) then .chk (okOn vs (.box l 0 t y)) (.ret [(d, .box l 0 t y)]) else .fail
  | _ => .fail

/-- A move: a tuple is parted, all else as ever. -/
def moveUps (C : Ctx) (vs : List Nat) (N d : Nat) (X : TypeId) (x : Operand) (hx : Nat → Nat → Option Nat) : M (List (Nat × V)) :=
  match x with
  | .tmp s => .get s fun v => match v with
    | .tup _ => .chk (decide (d < N)) (tupUps vs N d s (hx d))
    | _ => assignM C vs N d X x
  | _ => assignM C vs N d X x

def tmpsOf : List Operand → List Nat
  | [] => []
  | .tmp s :: l => s :: tmpsOf l
  | _ :: l => tmpsOf l

/-- The slots of an append that are given away. -/
def appTmps (C : Ctx) (X : TypeId) (s x : Operand) : List Nat :=
  match C.ty X with
  | some (.slice _ t) => if t.depth = 0 then tmpsOf [s] else tmpsOf [s, x]
  | _ => []

/-- What a function's text tells ahead: where a tuple's part waits, which slots are variables in memory, what may speak of a variable's memory. -/
structure Hints where
  hx : Nat → Nat → Option Nat
  bx : Nat → Bool
  kids : Nat → List Nat

def storeH (C : Ctx) (vs : List Nat) (N : Nat) (hx : Hints) (X : TypeId) (t : Nat) (x : Operand) : M (List (Nat × V)) :=
  .get t fun v => match addrOf t v with
  | none => .fail
  | some (r, p) => .get r fun u => match u with
    | .hole u' p' => fillM C vs N (hx.kids r) X r p u' p' x
    | _ => match p with
      | [] => cond (hx.bx r) (wholeM C vs N (hx.kids r) X r u x (storeM C vs N (some (hx.kids r)) X t x)) (storeM C vs N none X t x)
      | _ :: _ => cond (hx.bx r) (storeDeepM C N (hx.kids r) X r p u x (storeM C vs N (some (hx.kids r)) X t x)) (storeM C vs N none X t x)

/-- A result that is only read may lean on what was passed. -/
def frozenRes (tab : Tab) (f : FuncId) : Bool := match tab f with
  | some F => (F.rs.any fun p => p.2 == 0 && p.1.depth != 0) || !fullP F.ps
  | none => false

def stepM (C : Ctx) (tab : Tab) (vs : List Nat) (hx : Hints) (N : Nat) (o : Oper) : M (List (Nat × V)) :=
  match o.dst with
  | none => match o.op with
    | .store X (.tmp t) x => takeFor N hx.kids (tmpsOf [x]) (storeH C vs N hx X t x)
    | _ => .fail
  | some d => match o.op with
    | .move x => moveUps C vs N d o.type x hx.hx
    | .assign x => assignM C vs N d o.type x
    | .box X x => idleM N d (bxMvM C vs X d x (boxUps C vs X d x))
    | .build X parts => takeFor N hx.kids (tmpsOf (parts.toList.map (·.2))) (idleM N d (buildUps C vs X d parts.toList))
    | .buildSlice X len parts => takeFor N hx.kids (tmpsOf (parts.toList.map (·.2))) (idleM N d (rowUps C vs X d len parts.toList))
    | .extract x i => .chk (decide (d < N)) (extUps vs d x i)
    | .fieldAddr X (.tmp t) f => cond (hx.bx t) (idleM N d ((fieldBoxM C X f t).bind fun v => .chk (okOn vs v) (.ret [(d, v)]))) (idleM N d (pureUps C vs d o))
    | .call c => match c.callee with
      | .value (.func f) => iceFor N (cond (frozenRes tab f) ((tmpsOf c.args.toList).filter fun s => !vs.contains s) []) (idleM N d (callYM C tab vs N d f c.args.toList))
      | .builtin .max => idleM N d (maxUps C d true c.args.toList)
      | .builtin .min => idleM N d (maxUps C d false c.args.toList)
      | .builtin .append => match c.args, c.argTypes with
        | ⟨[s, x]⟩, ⟨[X, X2]⟩ => takeFor N hx.kids (appTmps C X s x) (idleM N d (appUps C vs d X X2 s x))
        | _, _ => .fail
      | _ => idleM N d (pureUps C vs d o)
    | _ => idleM N d (pureUps C vs d o)

section
variable {P : Program} {C : Ctx} {w w' w0 : World} {L L' L0 : Nat → Lab} {N : Nat} {vs : List Nat} {T T' : List V} {a : Act}

theorem idleM_runs {d : Nat} {m : M (List (Nat × V))} {ups : List (Nat × V)} {log : List Nat} (h : (idleM N d m).Runs T ups log) : (T.getD d .dead).idle = true ∧ d < N ∧ ∃ log, m.Runs T ups log := by
  obtain ⟨log', rfl, hc, h⟩ := h
  simp only [Bool.and_eq_true, decide_eq_true_eq] at hc
  exact ⟨hc.1, hc.2, log', h⟩

theorem step_pure [Glob] (hI : Inv w0 L0 N vs T a w L) (hC : CtxOk P C) {o : Oper} {d : Nat} {ups : List (Nat × V)} {log : List Nat} (hdst : o.dst = some d) (hd : d < N) (hid : (T.getD d .dead).idle = true)
    (h : (pureUps C vs d o).Runs T ups log) : Step P o w0 L0 N vs (setAll T ups) a w := by
  obtain ⟨v, l1, l2, rfl, h1, hok, rfl, _⟩ := M.runs_bind h
  intro K Q hK
  exact PureRes.inv hI hd hid hdst (pure_sound hI hC hid (okOn_mem hok) h1) hK

theorem step_max [Glob] (hI : Inv w0 L0 N vs T a w L) {o : Oper} {mx : Bool} {args : Array Operand} {ats : Array TypeId} {d : Nat} {ups : List (Nat × V)} {log : List Nat} (ho : o.op = .call { callee := .builtin (cond mx .max .min), args, argTypes := ats }) (hdst : o.dst = some d) (hd : d < N) (hid : (T.getD d .dead).idle = true)
    (h : (maxUps C d mx args.toList).Runs T ups log) : Step P o w0 L0 N vs (setAll T ups) a w := by
  obtain ⟨args⟩ := args
  dsimp only at h
  unfold maxUps at h
  split at h
  · rename_i x y
    obtain ⟨u, l1, l2, rfl, h1, h⟩ := M.runs_bind h
    obtain ⟨v, l3, l4, rfl, h2, h⟩ := M.runs_bind h
    split at h
    · rename_i l n k m l' n' k' m' _
      obtain ⟨rfl, _⟩ := h
      have hx := opnd_int hI h1
      have hy := opnd_int hI h2
      have hres : PureRes P o vs T a w L d (.d none 0 (.int k) (cond mx (if m < m' then m' else m) (if m' < m then m' else m))) := by
        refine PureRes.still hI ?_ (fun _ => rfl) SRep.mkInt
        cases mx with
        | true => simp [execOp, ho, resolve, invoke, builtin, Builtin.max_, Builtin.max2, hx, hy]
        | false => simp [execOp, ho, resolve, invoke, builtin, Builtin.min_, Builtin.min2, hx, hy]
      intro K Q hK
      exact PureRes.inv hI hd hid hdst hres hK
    · exact h.elim
  · exact h.elim

theorem step_box [Glob] (hI : Inv w0 L0 N vs T a w L) (hC : CtxOk P C) {o : Oper} {X : TypeId} {x : Operand} {d : Nat} {ups : List (Nat × V)} {log : List Nat} (ho : o.op = .box X x) (hdst : o.dst = some d) (hd : d < N) (hid : (T.getD d .dead).idle = true)
    (h : (boxUps C vs X d x).Runs T ups log) : Step P o w0 L0 N vs (setAll T ups) a w := by
  obtain ⟨v, l1, l2, rfl, h1, h2⟩ := M.runs_bind h
  split at h2
  · rename_i l k t y
    split at h2
    · rename_i hc
      obtain ⟨hX, hk⟩ := hc
      obtain ⟨hok, rfl, _⟩ := h2
      have hrep : ∃ s0, SRep L T a.tmps s0 (.d l k t y) w (a.eval x) := by
        rcases opnd_rep hI h1 with ⟨s, _, _, hs⟩ | ⟨_, hs⟩
        · exact ⟨s, hs⟩
        · exact ⟨0, hs _ _ _ _ _⟩
      obtain ⟨s0, hdp, cs, hf, how⟩ := hrep
      have hcs := Form.cells hf (Own.one how)
      have hrun : (execOp a.eval o).run P w = .ok (.value (.pointer (some ⟨w.heap.size, 0, none⟩))) (w.alloc (.cells (a.eval x).cells X)) := by
        simp [execOp, ho, Instr.box, newVar, newRow, newObj, Sem.run]
      have hres : PureRes P o vs T a w L d (.box l 0 t y) := by
        refine ⟨_, _, _, hrun, Grows.alloc hI d [] _, fun _ _ _ _ => rfl, okOn_mem hok, fun r hr => ?_, w.heap.size, (a.eval x).cells, X, rfl, by simp, heap_new _ _, ?_, ?_⟩
        · have := hdp r hr
          rw [getD_set, if_neg (fun e => idle_ne hid (V.owns_of_deep this) e.1)]
          exact this
        · rw [← Array.length_toList, hcs, Own.len how]
        · rw [hcs]
          have h0 := Own.rd0 (Own.at0 (s' := 0) (q' := []) (o' := 0) (n' := 0) hk how (.inl rfl))
          refine Own.of_rd (Rd.move (fun k hk => ?_) h0)
          have hlt : k < w.heap.size := hI.lt (by rcases hk with hk | ⟨_, _, _, hk⟩ <;> rw [hk] <;> simp)
          refine ⟨?_, Go.RowKit.Below.heap_alloc w _ k hlt⟩
          unfold SL
          dsimp only
          rw [if_neg (by omega)]
          exact hk
      intro K Q hK
      exact PureRes.inv hI hd hid hdst hres hK
    · exact h2.elim
  · exact h2.elim

theorem addr_rep [Glob] (hI : Inv w0 L0 N vs T a w L) {t r : Nat} {p : List St} (he : addrOf t (T.getD t .dead) = some (r, p)) : ∃ g, a.eval (.tmp t) = .pointer (some ⟨g, (node [] 0 p).2, none⟩) ∧ L g = .own r (node [] 0 p).1 := by
  have hst := hI.slots t
  generalize T.getD t .dead = v at he hst
  cases v with
  | ptr r2 p2 t2 =>
    simp only [addrOf, Option.some.injEq, Prod.mk.injEq] at he
    obtain ⟨rfl, rfl⟩ := he
    exact hst
  | box l n t2 x2 =>
    simp only [addrOf, Option.some.injEq, Prod.mk.injEq] at he
    obtain ⟨rfl, rfl⟩ := he
    obtain ⟨_, g, cur, e, h1, h2, _⟩ := hst
    exact ⟨g, h1, h2⟩
  | dead => cases he
  | tup _ => cases he
  | d _ _ _ _ => cases he
  | rp _ _ _ => cases he
  | view _ _ _ => cases he
  | hole _ _ => cases he
  | part _ _ _ _ _ => cases he

theorem stepM_ok [Glob] (hmix : P.follows .mixedOrders = true) (hC : CtxOk P C) {tab : Tab} (htab : TabOk P tab) {hx : Hints} {E : Env} (hE : E.step = stepM C tab vs hx E.N) : StepOk P w0 L0 vs E := by
  refine ⟨hmix, ?_⟩
  intro o T ups log a w L hI h
  rw [hE] at h
  unfold stepM at h
  have hpure : ∀ {d : Nat}, o.dst = some d → (idleM E.N d (pureUps C vs d o)).Runs T ups log → Step P o w0 L0 E.N vs (setAll T ups) a w := by
    intro d hdst h
    obtain ⟨h1, h2, log, h3⟩ := idleM_runs h
    exact step_pure hI hC hdst h2 h1 h3
  split at h
  · rename_i hdst
    split at h
    · rename_i X t x ho
      obtain ⟨T1, L1, ups2, log2, hI1, h, hset⟩ := takeFor_runs hI h
      rw [hset]
      obtain ⟨l1, rfl, h⟩ := h
      dsimp only at h
      split at h
      · exact h.elim
      · rename_i r p hadr
        obtain ⟨l2, rfl, h⟩ := h
        dsimp only at h
        split at h
        · rename_i u' p' hur
          exact step_fill hI1 hC ho hdst hadr (fun r p => addr_rep hI1) hur h
        · split at h
          · cases hb : hx.bx r with
            | true =>
              rw [hb, cond_true] at h
              exact step_whole hI1 hC ho hdst hadr (fun r p => addr_rep hI1) rfl (fun h => step_store hI1 hC ho hdst h) h
            | false =>
              rw [hb, cond_false] at h
              exact step_store hI1 hC ho hdst h
          · cases hb : hx.bx r with
            | true =>
              rw [hb, cond_true] at h
              exact step_storeDeep hI1 hC ho hdst hadr (fun r p => addr_rep hI1) rfl h (fun _ h => step_store hI1 hC ho hdst h)
            | false =>
              rw [hb, cond_false] at h
              exact step_store hI1 hC ho hdst h
    · exact h.elim
  · rename_i d hdst
    split at h
    · rename_i x ho
      unfold moveUps at h
      split at h
      · rename_i s
        obtain ⟨log', rfl, h⟩ := h
        dsimp only at h
        split at h
        · obtain ⟨hd, h⟩ := h
          exact step_tup hI (.inl ho) hdst (by simpa using hd) h
        · exact step_assign hI (.inl ho) hdst h
      · exact step_assign hI (.inl ho) hdst h
    · rename_i x ho
      exact step_assign hI (.inr ho) hdst h
    · rename_i X x ho
      obtain ⟨h1, h2, log, h3⟩ := idleM_runs h
      exact step_bxMv hI hC ho hdst h2 h1 h3 (fun _ hm => step_box hI hC ho hdst h2 h1 hm)
    · rename_i X parts ho
      obtain ⟨T1, L1, ups2, log2, hI1, h, hset⟩ := takeFor_runs hI h
      rw [hset]
      obtain ⟨h1, h2, log, h3⟩ := idleM_runs h
      exact step_build hI1 hC ho hdst h2 h1 h3
    · rename_i X len parts ho
      obtain ⟨T1, L1, ups2, log2, hI1, h, hset⟩ := takeFor_runs hI h
      rw [hset]
      obtain ⟨h1, h2, log, h3⟩ := idleM_runs h
      exact step_row hI1 hC ho hdst h2 h1 h3
    · rename_i x i ho
      obtain ⟨hd, h⟩ := h
      exact step_ext hI ho hdst (by simpa using hd) h
    · rename_i X t f ho
      cases hb : hx.bx t with
      | false => rw [hb] at h; exact hpure hdst h
      | true =>
        rw [hb] at h
        obtain ⟨h1, h2, log, h3⟩ := idleM_runs h
        obtain ⟨v, l1, l2, rfl, h4, hok, rfl, _⟩ := M.runs_bind h3
        intro K Q hK
        exact PureRes.inv hI h2 h1 hdst (pure_fieldBox hI hC ho h4 (okOn_mem hok)) hK
    · rename_i c ho
      split at h
      · rename_i f hf
        obtain ⟨T1, L1, ups2, log2, hI1, h, hset⟩ := iceFor_runs hI h
        rw [hset]
        obtain ⟨h1, h2, log, h3⟩ := idleM_runs h
        obtain ⟨callee, args, ats⟩ := c
        dsimp only at hf h3
        subst hf
        exact step_callY hI1 htab ho hdst h2 h1 h3
      · rename_i hf
        obtain ⟨h1, h2, log, h3⟩ := idleM_runs h
        obtain ⟨callee, args, ats⟩ := c
        dsimp only at hf h3
        subst hf
        exact step_max hI (mx := true) (by rw [ho]; rfl) hdst h2 h1 h3
      · rename_i hf
        obtain ⟨h1, h2, log, h3⟩ := idleM_runs h
        obtain ⟨callee, args, ats⟩ := c
        dsimp only at hf h3
        subst hf
        exact step_max hI (mx := false) (by rw [ho]; rfl) hdst h2 h1 h3
      · rename_i hf
        obtain ⟨callee, args, ats⟩ := c
        dsimp only at hf h
        subst hf
        split at h
        · rename_i s x X X2
          obtain ⟨T1, L1, ups2, log2, hI1, h, hset⟩ := takeFor_runs hI h
          rw [hset]
          obtain ⟨h1, h2, log, h3⟩ := idleM_runs h
          exact step_append hI1 hC ho hdst h2 h1 h3
        · exact h.elim
      · exact hpure hdst h
    · exact hpure hdst h
end

/-! ### results -/
/-- A result: its data, the slot whose rows it is, the slots that it reads. -/
def resOne (t : Ty) (n s : Nat) (v : V) : M (t.den × Option Nat × List Nat) :=
  if t.depth = 0 ∨ n = 0 then (readD s v).bind fun z => if h : z.2.1 = t then .ret (h ▸ z.2.2, none, if t.depth = 0 then [] else z.1.toList) else .fail
  else match v with
    | .d none k t' y => if h : t' = t then (if n ≤ k then .ret (h ▸ y, some s, []) else .fail) else .fail
    | .view r [] _ => .get r fun u => match u with
      | .d none k t' y => if h : t' = t then (if n ≤ k then .ret (h ▸ y, some r, []) else .fail) else .fail
      | _ => .fail
    | _ => .fail

/-- What becomes of a slot's rows: they are results' (from which cell on, of which type, how deep), a parameter's, or all else. -/
structure Src where
  s : Nat
  o : Nat
  sz : Nat
  n : Nat

structure Outs (rs : List (Ty × Nat)) where
  x : (rTy rs).den
  ss : List Src
  ls : List Nat

/-- Where a result lies: in a slot, or in a variable of its own. -/
inductive RV where
  | tmp (s : Nat)
  | cell (s : Nat) (X : TypeId)

def RV.slot : RV → Nat
  | .tmp s => s
  | .cell s _ => s

def RV.var : RV → ResultVar
  | .tmp s => .tmp s
  | .cell s X => .cell s X

def resCell (C : Ctx) (X : TypeId) (t : Ty) (n s : Nat) (v : V) : M (t.den × Option Nat × List Nat) :=
  match v with
  | .box none k t' y => if h : t' = t then
      if C.ty X = some t then
        (if t.depth = 0 ∨ n = 0 then .ret (h ▸ y, none, if t.depth = 0 then [] else [s]) else if n ≤ k then .ret (h ▸ y, some s, []) else .fail)
      else .fail
    else .fail
  | _ => .fail

def resV1 (C : Ctx) (t : Ty) (n : Nat) (rv : RV) (v : V) : M (t.den × Option Nat × List Nat) :=
  match rv with
  | .tmp s => resOne t n s v
  | .cell s X => resCell C X t n s v

def resM (C : Ctx) : Nat → (rs : List (Ty × Nat)) → List RV → M (Outs rs)
  | _, [], [] => .ret ⟨(), [], []⟩
  | o, (t, n) :: rs, rv :: sl => .get rv.slot fun v => (resV1 C t n rv v).bind fun y => (resM C (o + t.sz) rs sl).bind fun r =>
      .ret ⟨(y.1, r.x), (match y.2.1 with | some s' => ⟨s', o, t.sz, n⟩ :: r.ss | none => r.ss), y.2.2 ++ r.ls⟩
  | _, _, _ => .fail

/-- The value that is returned. -/
def FinVal (P : Program) (w : World) (a : Act) : RV → Value → Prop
  | .tmp s, c => c = a.tmps.getD s undef
  | .cell s X, c => ∃ A, a.tmps.getD s undef = .pointer (some A) ∧ (loadVar X A).run P w = .ok c w

def FinVals (P : Program) (w : World) (a : Act) : List RV → List Value → Prop
  | [], cs => cs = []
  | rv :: l, cs => ∃ c cs', cs = c :: cs' ∧ FinVal P w a rv c ∧ FinVals P w a l cs'

/-- What is left in the written parameters, and who owns it: (slot, parameter). -/
def outM : Nat → (ps : List (Ty × Mode)) → M ((mTy ps).den × List (Nat × Nat))
  | _, [] => .ret ((), [])
  | i, (t, .mut n) :: ps => .get i fun v => match v with
    | .d none k t' y => if h : t' = t then (if k = n then (outM (i + 1) ps).bind fun r => .ret ((h ▸ y, r.1), (i, i) :: r.2) else .fail) else .fail
    | .view d [] tv => .get d fun u => match u with
      | .box none k t' y => if h : t' = t then (if k = n ∧ tv = t then (outM (i + 1) ps).bind fun r => .ret ((h ▸ y, r.1), (d, i) :: r.2) else .fail) else .fail
      | _ => .fail
    | _ => .fail
  | i, (t, .ptr n) :: ps => .get i fun v => match v with
    | .box none k t' y => if h : t' = t then (if k = n then (outM (i + 1) ps).bind fun r => .ret ((h ▸ y, r.1), (i, i) :: r.2) else .fail) else .fail
    | _ => .fail
  | i, (_, .ro) :: ps => outM (i + 1) ps

def muts : Nat → List (Ty × Mode) → List Nat
  | _, [] => []
  | i, (_, .mut _) :: ps => i :: muts (i + 1) ps
  | i, (_, .ptr _) :: ps => i :: muts (i + 1) ps
  | i, (_, .ro) :: ps => muts (i + 1) ps

def finM (C : Ctx) (ps : List (Ty × Mode)) (rs : List (Ty × Nat)) (sl : List RV) : M (Ty.pair (rTy rs) (mTy ps)).den :=
  (resM C 0 rs sl).bind fun r => (outM 0 ps).bind fun m =>
    .chk (nodupB (r.ss.map (·.s)) && r.ls.all (fun l => !(r.ss.map (·.s)).contains l && !(m.2.map (·.1)).contains l) && (m.2.map (·.1)).all (fun i => !(r.ss.map (·.s)).contains i) && nodupB (m.2.map (·.1))) (.ret (r.x, m.1))

/-- The same where a pointer to a variable is the one result. -/
def finPM : (ps : List (Ty × Mode)) → (rs : List (Ty × Nat)) → List RV → M (Ty.pair (rTy rs) (mTy ps)).den
  | ps, [(t, n)], [.tmp s] => .get s fun v => (boxOf s v).bind fun z => if h : z.2.t = t then (if z.2.n + 1000 = n then (outM 0 ps).bind fun m => .chk (nodupB (z.1 :: m.2.map (·.1))) (.ret ((h ▸ z.2.x, ()), m.1)) else .fail) else .fail
  | _, _, _ => .fail

/-- How the rows are labelled when the call is over. -/
def finLab (m : Nat) (mu : List (Nat × Nat)) (ss : List Src) : Lab → Lab
  | .own s q => match mu.find? (fun p => p.1 == s) with
    | some p => .own p.2 q
    | none => match ss.find? (fun p => p.s == s) with
      | some p => match q with
        | y :: rest => if y < p.sz then (if rest.length < p.n then .own m ((p.o + y) :: rest) else .stable) else .stable
        | [] => .stable
      | none => .stable
  | x => x

theorem find_none_of {mu : List (Nat × Nat)} {s : Nat} (h : s ∉ mu.map (·.1)) : mu.find? (fun p => p.1 == s) = none := by
  rw [List.find?_eq_none]
  intro p hp he
  exact h (List.mem_map.2 ⟨p, hp, by simpa using he⟩)

theorem find_mu {mu : List (Nat × Nat)} {s j : Nat} (hn : nodupB (mu.map (·.1)) = true) (h : (s, j) ∈ mu) : mu.find? (fun p => p.1 == s) = some (s, j) := by
  induction mu with
  | nil => cases h
  | cons x l ih =>
    simp only [List.map_cons, nodupB, Bool.and_eq_true, Bool.not_eq_true'] at hn
    rcases List.mem_cons.1 h with rfl | hm
    · simp
    · have hne : x.1 ≠ s := fun e => by
        have : (l.map (·.1)).contains x.1 = true := by
          rw [List.contains_iff_mem, e]
          exact List.mem_map.2 ⟨(s, j), hm, rfl⟩
        rw [hn.1] at this
        cases this
      rw [List.find?_cons_of_neg (by simpa using hne)]
      exact ih hn.2 hm

section
variable {P : Program} {C : Ctx} {w w' w0 : World} {L L' L0 : Nat → Lab} {N : Nat} {vs : List Nat} {T T' : List V} {a : Act}

theorem finLab_lend [Glob] {m : Nat} {mu : List (Nat × Nat)} {ss : List Src} {s : Nat} {q : List Nat} (h1 : s ∉ mu.map (·.1)) (h2 : s ∉ ss.map (·.s)) : finLab m mu ss (.own s q) = .stable := by
  unfold finLab
  dsimp only
  rw [find_none_of h1]
  have : ss.find? (fun p => p.s == s) = none := by
    rw [List.find?_eq_none]
    intro p hp he
    exact h2 (List.mem_map.2 ⟨p, hp, by simpa using he⟩)
  rw [this]

theorem finLab_src [Glob] {m : Nat} {mu : List (Nat × Nat)} {ss : List Src} {p : Src} (hn : nodupB (ss.map (·.s)) = true) (h1 : p.s ∉ mu.map (·.1)) (hp : p ∈ ss) {y : Nat} {rest : List Nat} (hy : y < p.sz) :
    finLab m mu ss (.own p.s (y :: rest)) = if rest.length < p.n then .own m ((p.o + y) :: rest) else .stable := by
  unfold finLab
  dsimp only
  rw [find_none_of h1]
  have : ss.find? (fun p' => p'.s == p.s) = some p := by
    clear h1 hy
    induction ss with
    | nil => cases hp
    | cons x l ih =>
      simp only [List.map_cons, nodupB, Bool.and_eq_true, Bool.not_eq_true'] at hn
      rcases List.mem_cons.1 hp with rfl | hp
      · simp
      · have hne : x.s ≠ p.s := fun e => by
          have : (l.map (·.s)).contains x.s = true := by
            rw [List.contains_iff_mem, e]
            exact List.mem_map_of_mem hp
          rw [hn.1] at this
          cases this
        rw [List.find?_cons_of_neg (by simpa using hne)]
        exact ih hn.2 hp
  rw [this]
  dsimp only
  rw [if_pos hy]

theorem resOne_rep [Glob] (hI : Inv w0 L0 N vs T a w L) {t : Ty} {n s : Nat} {y : t.den} {src : Option Nat} {ls : List Nat} {log : List Nat} (h : (resOne t n s (T.getD s .dead)).Runs T (y, src, ls) log) :
    ∃ cells, Form t cells (a.tmps.getD s undef) ∧ (∀ s', src = some s' → n ≠ 0 ∧ t.depth ≠ 0) ∧
      ∀ (L' : Nat → Lab) (m o : Nat), (∀ k, L k = .stable → L' k = .stable) → (∀ k r q, r ∈ ls → L k = .own r q → L' k = .stable) →
        (∀ s' k i rest, src = some s' → L k = .own s' (i :: rest) → i < t.sz → (rest.length < n → L' k = .own m ((o + i) :: rest)) ∧ (n ≤ rest.length → L' k = .stable)) →
        Own w L' (fun k => L' k = .stable) m n t y [] o cells := by
  have hs := hI.slots s
  have howned : ∀ {k : Nat} {cells : List Value} {s' : Nat} {y : t.den}, n ≤ k → Own w L (SL L none) s' k t y [] 0 cells → ∀ (L' : Nat → Lab) (m o : Nat), (∀ k, L k = .stable → L' k = .stable) →
        (∀ k i rest, L k = .own s' (i :: rest) → i < t.sz → (rest.length < n → L' k = .own m ((o + i) :: rest)) ∧ (n ≤ rest.length → L' k = .stable)) →
        Own w L' (fun k => L' k = .stable) m n t y [] o cells := by
    intro k cells s' y hnk ho L' m o H1 H3
    refine Own.moveLow hnk (fun k hk => ⟨?_, rfl⟩) (fun k d rest hd hk => ?_) ho
    · rcases hk with hk | ⟨_, _, hk, _⟩
      · exact H1 k hk
      · cases hk
    · have hk' : L k = .own s' (d :: rest) := by simpa using hk
      have := H3 k d rest hk' hd
      exact ⟨rfl, fun h => by simpa using this.1 h, this.2⟩
  unfold resOne at h
  split at h
  · rename_i hc
    obtain ⟨⟨l, t', y'⟩, l1, l2, rfl, h1, h2⟩ := M.runs_bind h
    dsimp only at h2
    split at h2
    · rename_i ht
      subst ht
      obtain ⟨h2, _⟩ := h2
      cases h2
      obtain ⟨cells, hf, hrd, hdp⟩ := readD_rd hI h1 hs (fun _ => rfl)
      refine ⟨cells, hf, fun s' h => (by cases h), fun L' m o H1 H2 _ => ?_⟩
      have h0 := Own.of_rd (L := L) (s := 0) (q := []) (o := 0) hrd
      by_cases hd : t'.depth = 0
      · exact Own.flat hd h0
      · have hn : n = 0 := by omega
        subst hn
        rw [if_neg hd] at H2
        refine Own.of_rd (Rd.move (fun k hk => ⟨?_, rfl⟩) hrd)
        rcases hk with hk | ⟨r, q, hl, hk⟩
        · exact H1 k hk
        · exact H2 k r q (by simp [hl]) hk
    · exact h2.elim
  · rename_i hc
    have hc := not_or.1 hc
    generalize hv : T.getD s .dead = v at h hs
    split at h
    · rename_i k t' y'
      split at h
      · rename_i ht
        subst ht
        split at h
        · rename_i hnk
          obtain ⟨h, _⟩ := h
          cases h
          obtain ⟨_, cells, hf, ho⟩ := hs
          exact ⟨cells, hf, fun _ _ => ⟨hc.2, hc.1⟩, fun L' m o H1 _ H3 => howned hnk ho L' m o H1 (fun k i rest hk hi => H3 s k i rest rfl hk hi)⟩
        · exact h.elim
      · exact h.elim
    · rename_i r t2
      obtain ⟨log2, rfl, h⟩ := h
      dsimp only at h
      split at h
      · rename_i k t' y' hu
        split at h
        · rename_i ht
          subst ht
          split at h
          · rename_i hnk
            obtain ⟨h, _⟩ := h
            cases h
            obtain ⟨_, h1⟩ := hs
            have hr := hI.slots r
            rw [hu] at hr
            obtain ⟨_, cells, hf, ho⟩ := hr
            refine ⟨cells, ?_, fun _ _ => ⟨hc.2, hc.1⟩, fun L' m o H1 _ H3 => howned hnk ho L' m o H1 (fun k i rest hk hi => H3 r k i rest rfl hk hi)⟩
            rcases h1 with ⟨_, h2, _⟩ | ⟨_, _, _, h2, _⟩
            · rw [h2]; exact hf
            · rw [hu] at h2; simp [V.isD] at h2
          · exact h.elim
        · exact h.elim
      · exact h.elim
    · exact h.elim

theorem resCell_rep [Glob] (hI : Inv w0 L0 N vs T a w L) (hC : CtxOk P C) {X : TypeId} {t : Ty} {n s : Nat} {y : t.den} {src : Option Nat} {ls : List Nat} {log : List Nat} (h : (resCell C X t n s (T.getD s .dead)).Runs T (y, src, ls) log) :
    ∃ c cells, FinVal P w a (.cell s X) c ∧ Form t cells c ∧ (∀ s', src = some s' → n ≠ 0 ∧ t.depth ≠ 0) ∧
      ∀ (L' : Nat → Lab) (m o : Nat), (∀ k, L k = .stable → L' k = .stable) → (∀ k r q, r ∈ ls → L k = .own r q → L' k = .stable) →
        (∀ s' k i rest, src = some s' → L k = .own s' (i :: rest) → i < t.sz → (rest.length < n → L' k = .own m ((o + i) :: rest)) ∧ (n ≤ rest.length → L' k = .stable)) →
        Own w L' (fun k => L' k = .stable) m n t y [] o cells := by
  have hs := hI.slots s
  unfold resCell at h
  generalize hv : T.getD s .dead = v at h hs
  split at h
  · rename_i k t' y'
    split at h
    · rename_i ht
      subst ht
      split at h
      · rename_i hX
        obtain ⟨_, g, cur, e, h1, h2, h3, h4, h5⟩ := hs
        obtain ⟨c, hrun, hf⟩ := (hC X t' hX).run_loadVar (w := w) (g := g) (o := 0) (Own.len h5) (fun i v hv => by
          rw [Nat.zero_add, cell_cells h3]
          simpa using hv)
        have hfin : FinVal P w a (.cell s X) c := ⟨_, h1, hrun⟩
        have hst : ∀ {L' : Nat → Lab}, (∀ k, L k = .stable → L' k = .stable) → ∀ k, SL L none k → L' k = .stable ∧ w.heap[k]? = w.heap[k]? := by
          intro L' H k hk
          rcases hk with hk | ⟨_, _, hk, _⟩
          · exact ⟨H k hk, rfl⟩
          · cases hk
        split at h
        · rename_i hc
          obtain ⟨h, _⟩ := h
          cases h
          refine ⟨c, cur.toList, hfin, hf, fun s' h => (by cases h), fun L' m o H1 H2 _ => ?_⟩
          by_cases hd : t'.depth = 0
          · exact Own.flat hd h5
          · have hn : n = 0 := by omega
            subst hn
            rw [if_neg hd] at H2
            refine Own.of_rd (Own.rd (S' := fun k => L' k = .stable) (fun k q hk => H2 k s q (by simp) hk) (fun k hk => (hst H1 k hk).1) h5)
        · rename_i hc
          have hc := not_or.1 hc
          split at h
          · rename_i hnk
            obtain ⟨h, _⟩ := h
            cases h
            refine ⟨c, cur.toList, hfin, hf, fun _ _ => ⟨hc.2, hc.1⟩, fun L' m o H1 _ H3 => ?_⟩
            refine Own.moveLow hnk (hst H1) (fun k d rest hd hk => ?_) h5
            have hk' : L k = .own s (d :: rest) := by simpa using hk
            have := H3 s k d rest rfl hk' hd
            exact ⟨rfl, fun h => by simpa using this.1 h, this.2⟩
          · exact h.elim
      · exact h.elim
    · exact h.elim
  · exact h.elim

theorem resV1_rep [Glob] (hI : Inv w0 L0 N vs T a w L) (hC : CtxOk P C) {t : Ty} {n : Nat} {rv : RV} {y : t.den} {src : Option Nat} {ls : List Nat} {log : List Nat} (h : (resV1 C t n rv (T.getD rv.slot .dead)).Runs T (y, src, ls) log) :
    ∃ c cells, FinVal P w a rv c ∧ Form t cells c ∧ (∀ s', src = some s' → n ≠ 0 ∧ t.depth ≠ 0) ∧
      ∀ (L' : Nat → Lab) (m o : Nat), (∀ k, L k = .stable → L' k = .stable) → (∀ k r q, r ∈ ls → L k = .own r q → L' k = .stable) →
        (∀ s' k i rest, src = some s' → L k = .own s' (i :: rest) → i < t.sz → (rest.length < n → L' k = .own m ((o + i) :: rest)) ∧ (n ≤ rest.length → L' k = .stable)) →
        Own w L' (fun k => L' k = .stable) m n t y [] o cells := by
  cases rv with
  | tmp s =>
    obtain ⟨cells, h1, h2, h3⟩ := resOne_rep hI (s := s) h
    exact ⟨_, cells, rfl, h1, h2, h3⟩
  | cell s X => exact resCell_rep hI hC h

theorem resM_rep [Glob] (hI : Inv w0 L0 N vs T a w L) (hC : CtxOk P C) : {rs : List (Ty × Nat)} → {o : Nat} → {sl : List RV} → {R : Outs rs} → {log : List Nat} → (resM C o rs sl).Runs T R log →
    ∃ cs, FinVals P w a sl cs ∧ (∀ p ∈ R.ss, o ≤ p.o ∧ ∃ t, (t, p.n) ∈ rs ∧ p.n ≠ 0 ∧ t.depth ≠ 0) ∧ (∀ p p', p ∈ R.ss → p' ∈ R.ss → p.s ≠ p'.s → p.o + p.sz ≤ p'.o ∨ p'.o + p'.sz ≤ p.o) ∧
    ∀ (L' : Nat → Lab) (m : Nat), (∀ k, L k = .stable → L' k = .stable) → (∀ k r q, r ∈ R.ls → L k = .own r q → L' k = .stable) →
      (∀ p k i rest, p ∈ R.ss → L k = .own p.s (i :: rest) → i < p.sz → (rest.length < p.n → L' k = .own m ((p.o + i) :: rest)) ∧ (p.n ≤ rest.length → L' k = .stable)) →
      ResRep w L' m o rs R.x cs
  | [], o, [], R, log, h => by
    obtain ⟨rfl, _⟩ := h
    exact ⟨[], rfl, by simp, by simp, fun _ _ _ _ _ => rfl⟩
  | (t, n) :: rs, o, s :: sl, R, log, h => by
    obtain ⟨log', rfl, h⟩ := h
    obtain ⟨⟨y, src, ls⟩, l1, l2, rfl, h1, h⟩ := M.runs_bind h
    obtain ⟨R', l3, l4, rfl, h2, h⟩ := M.runs_bind h
    obtain ⟨rfl, _⟩ := h
    obtain ⟨c, cells, k0, k1, k2, k3⟩ := resV1_rep hI hC h1
    obtain ⟨cs, j0, j1, j2, j3⟩ := resM_rep hI hC h2
    have hmem : ∀ p, p ∈ (match src with | some s' => (⟨s', o, t.sz, n⟩ : Src) :: R'.ss | none => R'.ss) → (∃ s', src = some s' ∧ p = ⟨s', o, t.sz, n⟩) ∨ p ∈ R'.ss := by
      intro p hp
      cases src with
      | none => exact .inr hp
      | some s' =>
        rcases List.mem_cons.1 hp with hp | hp
        · exact .inl ⟨s', rfl, hp⟩
        · exact .inr hp
    refine ⟨c :: cs, ⟨c, cs, rfl, k0, j0⟩, fun p hp => ?_, fun p p' hp hp' hne => ?_, fun L' m H1 H2 H3 => ?_⟩
    · rcases hmem p hp with ⟨s', hs', rfl⟩ | hp
      · exact ⟨Nat.le_refl _, t, by simp, (k2 s' hs').1, (k2 s' hs').2⟩
      · obtain ⟨e1, t', e2, e3, e4⟩ := j1 p hp
        exact ⟨by omega, t', by simp [e2], e3, e4⟩
    · rcases hmem p hp with ⟨s', hs', rfl⟩ | hp
      · rcases hmem p' hp' with ⟨s2, hs2, rfl⟩ | hp'
        · rw [hs'] at hs2
          injection hs2 with hs2
          exact absurd hs2 hne
        · exact .inl (j1 p' hp').1
      · rcases hmem p' hp' with ⟨s2, hs2, rfl⟩ | hp'
        · exact .inr (j1 p hp).1
        · exact j2 p p' hp hp' hne
    · refine ⟨c, _, cells, rfl, k1, k3 L' m o H1 (fun k r q hr hk => H2 k r q (List.mem_append_left _ hr) hk) (fun s' k i rest hs' hk hi => ?_), j3 L' m H1 (fun k r q hr hk => H2 k r q (List.mem_append_right _ hr) hk) (fun p k i rest hp hk hi => H3 p k i rest ?_ hk hi)⟩
      · subst hs'
        exact H3 ⟨s', o, t.sz, n⟩ k i rest (by simp) hk hi
      · cases src with
        | none => exact hp
        | some s' => exact List.mem_cons_of_mem _ hp
  | [], _, _ :: _, _, _, h => h.elim
  | _ :: _, _, [], _, _, h => h.elim

theorem muts_mem : {ps : List (Ty × Mode)} → {i s : Nat} → (s ∈ muts i ps ↔ i ≤ s ∧ ∃ t m, ps[s - i]? = some (t, m) ∧ m ≠ .ro)
  | [], i, s => by simp [muts]
  | (t, md) :: ps, i, s => by
    have ih := muts_mem (ps := ps) (i := i + 1) (s := s)
    have key : (i + 1 ≤ s ∧ ∃ t' m, ps[s - (i + 1)]? = some (t', m) ∧ m ≠ .ro) ↔ (s ≠ i ∧ i ≤ s ∧ ∃ t' m, ((t, md) :: ps)[s - i]? = some (t', m) ∧ m ≠ .ro) := by
      constructor
      · rintro ⟨h1, t', n', h2, h3⟩
        exact ⟨by omega, by omega, t', n', by rw [show s - i = (s - (i + 1)) + 1 by omega]; simpa using h2, h3⟩
      · rintro ⟨hs, h1, t', n', h2, h3⟩
        refine ⟨by omega, t', n', ?_, h3⟩
        rw [show s - i = (s - (i + 1)) + 1 by omega] at h2
        simpa using h2
    have put : md ≠ .ro → ((s = i ∨ s ∈ muts (i + 1) ps) ↔ i ≤ s ∧ ∃ t' m, ((t, md) :: ps)[s - i]? = some (t', m) ∧ m ≠ .ro) := by
      intro hm
      rw [ih, key]
      constructor
      · rintro (rfl | ⟨_, h⟩)
        · exact ⟨Nat.le_refl _, t, md, by simp, hm⟩
        · exact h
      · intro h
        by_cases hs : s = i
        · exact .inl hs
        · exact .inr ⟨hs, h⟩
    match md, key, put with
    | .mut n, _, put => simpa only [muts, List.mem_cons] using put (by simp)
    | .ptr n, _, put => simpa only [muts, List.mem_cons] using put (by simp)
    | .ro, key, _ =>
      simp only [muts]
      rw [ih, key]
      constructor
      · exact fun h => h.2
      · rintro ⟨h1, t', m, h2, h3⟩
        refine ⟨?_, h1, t', m, h2, h3⟩
        rintro rfl
        rw [Nat.sub_self] at h2
        simp only [List.getElem?_cons_zero, Option.some.injEq, Prod.mk.injEq] at h2
        exact h3 h2.2.symm

theorem outM_rep [Glob] (hI : Inv w0 L0 N vs T a w L) {A0 : List Value} : {ps : List (Ty × Mode)} → {i : Nat} → {y : (mTy ps).den} → {mu : List (Nat × Nat)} → {log : List Nat} → (outM i ps).Runs T (y, mu) log → ps.length = A0.length → (∀ j, (∃ t m, ps[j]? = some (t, m) ∧ m ≠ .ro) → A0[j]? = some (a.tmps.getD (i + j) undef)) →
    ∀ (L' : Nat → Lab), (∀ k, L k = .stable → L' k = .stable) → (∀ k s j q, (s, j) ∈ mu → L k = .own s q → L' k = .own j q) → MutRep w L' i ps y A0
  | [], i, y, mu, log, h, hl, _, L', _, _ => by
    simp only [List.length_nil] at hl
    exact List.eq_nil_of_length_eq_zero hl.symm
  | (t, .mut n) :: ps, i, y, mu, log, h, hl, hA, L', H1, H2 => by
    cases A0 with
    | nil => simp at hl
    | cons c A0 =>
      obtain ⟨log', rfl, h⟩ := h
      have hs := hI.slots i
      have hc : c = a.tmps.getD i undef := by
        have := hA 0 ⟨t, .mut n, rfl, by simp⟩
        simpa using this
      subst hc
      have hA' : ∀ j, (∃ t m, ps[j]? = some (t, m) ∧ m ≠ .ro) → A0[j]? = some (a.tmps.getD (i + 1 + j) undef) := fun j hj => by
        have := hA (j + 1) (by simpa using hj)
        rw [show i + 1 + j = i + (j + 1) by omega]
        simpa using this
      generalize hv : T.getD i .dead = v at h hs
      dsimp only at h
      split at h
      · rename_i k t' y'
        split at h
        · rename_i ht
          subst ht
          split at h
          · rename_i hk
            subst hk
            obtain ⟨⟨r, mr⟩, l1, l2, rfl, h1, h2⟩ := M.runs_bind h
            obtain ⟨h2, _⟩ := h2
            injection h2 with h2 h3
            subst h2 h3
            obtain ⟨_, cells, hf, ho⟩ := hs
            refine ⟨_, A0, cells, rfl, hf, ?_, outM_rep hI h1 (by simpa using hl) hA' L' H1 (fun k' s j q hm hk' => H2 k' s j q (List.mem_cons_of_mem _ hm) hk')⟩
            · refine Own.move (fun k' hk' => ⟨?_, rfl⟩) (fun k' d rest _ hk' => ⟨H2 k' i i _ (by simp) hk', rfl⟩) ho
              rcases hk' with hk' | ⟨_, _, hk', _⟩
              · exact H1 k' hk'
              · cases hk'
          · exact h.elim
        · exact h.elim
      · rename_i d tv
        obtain ⟨log2, rfl, h⟩ := h
        have hd := hI.slots d
        generalize hu : T.getD d .dead = u at h hd
        dsimp only at h
        split at h
        · rename_i k t' y'
          split at h
          · rename_i ht
            subst ht
            split at h
            · rename_i hk
              obtain ⟨rfl, rfl⟩ := hk
              obtain ⟨⟨r, mr⟩, l1, l2, rfl, h1, h2⟩ := M.runs_bind h
              obtain ⟨h2, _⟩ := h2
              injection h2 with h2 h3
              subst h2 h3
              obtain ⟨_, hv2⟩ := hs
              rcases hv2 with ⟨_, _, l0, n0, x0, hd2, _⟩ | ⟨g, cur, e, _, g1, g2, g3, g4⟩
              · rw [hu] at hd2; cases hd2
              · obtain ⟨_, g', cur', e', _, j2, j3, j4, j5⟩ := hd
                obtain rfl := hI.inj g g' d _ g1 j2
                rw [g2] at j3
                injection j3 with j3
                injection j3 with j3 _ _
                subst j3
                simp only [node, List.drop_zero] at g4
                rw [List.take_of_length_le (by rw [Array.length_toList, j4]; exact Nat.le_refl _)] at g4
                refine ⟨_, A0, cur.toList, rfl, g4, ?_, outM_rep hI h1 (by simpa using hl) hA' L' H1 (fun k' s j q hm hk' => H2 k' s j q (List.mem_cons_of_mem _ hm) hk')⟩
                refine Own.move (fun k' hk' => ⟨?_, rfl⟩) (fun k' dd rest _ hk' => ⟨H2 k' d i _ (by simp) hk', rfl⟩) j5
                rcases hk' with hk' | ⟨_, _, hk', _⟩
                · exact H1 k' hk'
                · cases hk'
            · exact h.elim
          · exact h.elim
        · exact h.elim
      · exact h.elim
  | (t, .ptr n) :: ps, i, y, mu, log, h, hl, hA, L', H1, H2 => by
    cases A0 with
    | nil => simp at hl
    | cons c A0 =>
      obtain ⟨log', rfl, h⟩ := h
      have hs := hI.slots i
      have hc : c = a.tmps.getD i undef := by
        have := hA 0 ⟨t, .ptr n, rfl, by simp⟩
        simpa using this
      subst hc
      have hA' : ∀ j, (∃ t m, ps[j]? = some (t, m) ∧ m ≠ .ro) → A0[j]? = some (a.tmps.getD (i + 1 + j) undef) := fun j hj => by
        have := hA (j + 1) (by simpa using hj)
        rw [show i + 1 + j = i + (j + 1) by omega]
        simpa using this
      generalize hv : T.getD i .dead = v at h hs
      dsimp only at h
      split at h
      · rename_i k t' y'
        split at h
        · rename_i ht
          subst ht
          split at h
          · rename_i hk
            subst hk
            obtain ⟨⟨r, mr⟩, l1, l2, rfl, h1, h2⟩ := M.runs_bind h
            obtain ⟨h2, _⟩ := h2
            injection h2 with h2 h3
            subst h2 h3
            obtain ⟨_, g, cur, e, hf, hL, hg, hz, ho⟩ := hs
            refine ⟨_, A0, rfl, ⟨g, cur, e, hf, H2 g i i _ (by simp) hL, hg, hz, ?_⟩, outM_rep hI h1 (by simpa using hl) hA' L' H1 (fun k' s j q hm hk' => H2 k' s j q (List.mem_cons_of_mem _ hm) hk')⟩
            refine Own.move (fun k' hk' => ⟨?_, rfl⟩) (fun k' d rest _ hk' => ⟨H2 k' i i _ (by simp) hk', rfl⟩) ho
            rcases hk' with hk' | ⟨_, _, hk', _⟩
            · exact H1 k' hk'
            · cases hk'
          · exact h.elim
        · exact h.elim
      · exact h.elim
  | (t, .ro) :: ps, i, y, mu, log, h, hl, hA, L', H1, H2 => by
    cases A0 with
    | nil => simp at hl
    | cons c A0 =>
      refine ⟨c, A0, rfl, outM_rep (ps := ps) (i := i + 1) hI h (by simpa using hl) (fun j hj => ?_) L' H1 H2⟩
      have := hA (j + 1) (by simpa using hj)
      rw [show i + 1 + j = i + (j + 1) by omega]
      simpa using this

theorem outM_mu : {ps : List (Ty × Mode)} → {i : Nat} → {y : (mTy ps).den} → {mu : List (Nat × Nat)} → {log : List Nat} → (outM i ps).Runs T (y, mu) log →
    ∀ s j, (s, j) ∈ mu → i ≤ j ∧ (∃ t m, ps[j - i]? = some (t, m) ∧ m ≠ .ro) ∧ ∀ s', (s', j) ∈ mu → s' = s
  | [], i, y, mu, log, h => by
    obtain ⟨h, _⟩ := h
    injection h with _ h
    subst h
    simp
  | (t, .mut n) :: ps, i, y, mu, log, h => by
    obtain ⟨log', rfl, h⟩ := h
    have key : ∀ {d : Nat} {y2 : (mTy ps).den} {mr : List (Nat × Nat)} {l : List Nat}, (outM (i + 1) ps).Runs T (y2, mr) l → mu = (d, i) :: mr → ∀ s j, (s, j) ∈ mu → i ≤ j ∧ (∃ t' m', ((t, Mode.mut n) :: ps)[j - i]? = some (t', m') ∧ m' ≠ .ro) ∧ ∀ s', (s', j) ∈ mu → s' = s := by
      intro d y2 mr l h1 hmu s j hm
      subst hmu
      have ih := outM_mu h1
      rcases List.mem_cons.1 hm with hm | hm
      · injection hm with h2 h3
        subst h2 h3
        refine ⟨Nat.le_refl _, ⟨t, .mut n, by simp, by simp⟩, fun s' hm' => ?_⟩
        rcases List.mem_cons.1 hm' with hm' | hm'
        · injection hm'
        · have := (ih s' j hm').1
          omega
      · obtain ⟨e1, ⟨t', n', e2, e2'⟩, e3⟩ := ih s j hm
        refine ⟨by omega, ⟨t', n', by rw [show j - i = (j - (i + 1)) + 1 by omega]; simpa using e2, e2'⟩, fun s' hm' => ?_⟩
        rcases List.mem_cons.1 hm' with hm' | hm'
        · injection hm' with _ h3
          omega
        · exact e3 s' hm'
    generalize hv : T.getD i .dead = v at h
    dsimp only at h
    split at h
    · split at h
      · split at h
        · obtain ⟨⟨r, mr⟩, l1, l2, rfl, h1, h2⟩ := M.runs_bind h
          obtain ⟨h2, _⟩ := h2
          injection h2 with h2 h3
          exact key h1 h3
        · exact h.elim
      · exact h.elim
    · rename_i d tv
      obtain ⟨log2, rfl, h⟩ := h
      generalize T.getD d .dead = u at h
      dsimp only at h
      split at h
      · split at h
        · split at h
          · obtain ⟨⟨r, mr⟩, l1, l2, rfl, h1, h2⟩ := M.runs_bind h
            obtain ⟨h2, _⟩ := h2
            injection h2 with h2 h3
            exact key h1 h3
          · exact h.elim
        · exact h.elim
      · exact h.elim
    · exact h.elim
  | (t, .ptr n) :: ps, i, y, mu, log, h => by
    obtain ⟨log', rfl, h⟩ := h
    have key : ∀ {d : Nat} {y2 : (mTy ps).den} {mr : List (Nat × Nat)} {l : List Nat}, (outM (i + 1) ps).Runs T (y2, mr) l → mu = (d, i) :: mr → ∀ s j, (s, j) ∈ mu → i ≤ j ∧ (∃ t' m', ((t, Mode.ptr n) :: ps)[j - i]? = some (t', m') ∧ m' ≠ .ro) ∧ ∀ s', (s', j) ∈ mu → s' = s := by
      intro d y2 mr l h1 hmu s j hm
      subst hmu
      have ih := outM_mu h1
      rcases List.mem_cons.1 hm with hm | hm
      · injection hm with h2 h3
        subst h2 h3
        refine ⟨Nat.le_refl _, ⟨t, .ptr n, by simp, by simp⟩, fun s' hm' => ?_⟩
        rcases List.mem_cons.1 hm' with hm' | hm'
        · injection hm'
        · have := (ih s' j hm').1
          omega
      · obtain ⟨e1, ⟨t', n', e2, e2'⟩, e3⟩ := ih s j hm
        refine ⟨by omega, ⟨t', n', by rw [show j - i = (j - (i + 1)) + 1 by omega]; simpa using e2, e2'⟩, fun s' hm' => ?_⟩
        rcases List.mem_cons.1 hm' with hm' | hm'
        · injection hm' with _ h3
          omega
        · exact e3 s' hm'
    generalize hv : T.getD i .dead = v at h
    dsimp only at h
    split at h
    · split at h
      · split at h
        · obtain ⟨⟨r, mr⟩, l1, l2, rfl, h1, h2⟩ := M.runs_bind h
          obtain ⟨h2, _⟩ := h2
          injection h2 with h2 h3
          exact key h1 h3
        · exact h.elim
      · exact h.elim
    · exact h.elim
  | (t, .ro) :: ps, i, y, mu, log, h => by
    intro s j hm
    obtain ⟨e1, ⟨t', n', e2, e2'⟩, e3⟩ := outM_mu (ps := ps) (i := i + 1) h s j hm
    exact ⟨by omega, ⟨t', n', by rw [show j - i = (j - (i + 1)) + 1 by omega]; simpa using e2, e2'⟩, e3⟩

end
end Go.Proofs.YtamkkancfmbanaaDoor.P.Am

set_option linter.unusedVariables false
set_option linter.unusedSimpArgs false
namespace Go.Proofs.YtamkkancfmbanaaDoor.P.Am

/-! ## 31. A function's contract -/
def Mode.val (t : Ty) (x : t.den) : Mode → V
  | .ptr n => .box none n t x
  | .mut n => .d none n t x
  | .ro => .d none 0 t x

/-- A parameter's value, by its mode. -/
def PRep (w : World) (L0 : Nat → Lab) (i : Nat) (t : Ty) (x : t.den) (c : Value) : Mode → Prop
  | .ptr n => BoxAt w L0 (fun k => L0 k = .stable) i n t x c
  | .mut n => ∃ cells, Form t cells c ∧ Own w L0 (fun k => L0 k = .stable) i n t x [] 0 cells
  | .ro => ∃ cells, Form t cells c ∧ Own w L0 (fun k => L0 k = .stable) i 0 t x [] 0 cells

def initT : (ps : List (Ty × Mode)) → (pTy ps).den → List V
  | [], _ => []
  | (t, m) :: ps, x => m.val t x.1 :: initT ps x.2

def slots0 (N : Nat) (ps : List (Ty × Mode)) (x : (pTy ps).den) : List V := initT ps x ++ List.replicate (N - ps.length) .dead

def mkEnv (C : Ctx) (tab : Tab) (vs : List Nat) (N : Nat) (keep : Nat → Option Nat) (hx : Hints) (ps : List (Ty × Mode)) : Env :=
  { step := stepM C tab vs hx N, N := N, pins := fun p => (muts 0 ps).contains p, keep := keep }

def endK (C : Ctx) (ps : List (Ty × Mode)) (rs : List (Ty × Nat)) (sl : List RV) : Ex → List V → Option (Ty.pair (rTy rs) (mTy ps)).den
  | .ext _, _ => none
  | _, T => (bif lowR rs then finM C ps rs sl else finPM ps rs sl).runK T [] fun _ r => some r

noncomputable def mkFn (C : Ctx) (tab : Tab) (vs : List Nat) (N : Nat) (keep : Nat → Option Nat) (hx : Hints) (ps : List (Ty × Mode)) (rs : List (Ty × Nat)) (sl : List RV) (c : Code) : Fn :=
  { ps := ps, rs := rs, sem := fun x => denK (mkEnv C tab vs N keep hx ps) c (endK C ps rs sl) (slots0 N ps x) }

section
variable {P : Program} {C : Ctx} {w w' w0 : World} {L L' L0 : Nat → Lab} {N : Nat} {vs : List Nat} {T T' : List V} {a : Act}

theorem ArgsRep.cons {t : Ty} {m : Mode} {ps : List (Ty × Mode)} {i : Nat} {x : (pTy ((t, m) :: ps)).den} {cs : List Value} (h : ArgsRep w L0 i ((t, m) :: ps) x cs) :
    ∃ c cs', cs = c :: cs' ∧ PRep w L0 i t x.1 c m ∧ ArgsRep w L0 (i + 1) ps x.2 cs' := by
  match m, x, h with
  | .ptr n, x, h => exact h
  | .mut n, x, h =>
    obtain ⟨c, cs', cells, h1, h2, h3, h4⟩ := h
    exact ⟨c, cs', h1, ⟨cells, h2, h3⟩, h4⟩
  | .ro, x, h =>
    obtain ⟨c, cs', cells, h1, h2, h3, h4⟩ := h
    exact ⟨c, cs', h1, ⟨cells, h2, h3⟩, h4⟩

theorem ArgsRep.len [Glob] : {ps : List (Ty × Mode)} → {i : Nat} → {x : (pTy ps).den} → {cs : List Value} → ArgsRep w L0 i ps x cs → cs.length = ps.length
  | [], _, _, _, h => by simp only [ArgsRep] at h; subst h; rfl
  | (t, m) :: ps, i, x, cs, h => by
    obtain ⟨c, cs', rfl, _, h⟩ := h.cons
    simp [ArgsRep.len h]

theorem ArgsRep.get [Glob] : {ps : List (Ty × Mode)} → {i : Nat} → {x : (pTy ps).den} → {cs : List Value} → ArgsRep w L0 i ps x cs → ∀ (s : Nat) (t : Ty) (m : Mode), ps[s]? = some (t, m) →
    ∃ y c, (initT ps x)[s]? = some (m.val t y) ∧ cs[s]? = some c ∧ PRep w L0 (i + s) t y c m
  | [], _, _, _, _, s, t, m, h => by simp at h
  | (t0, m0) :: ps, i, x, cs, h, s, t, m, hs => by
    obtain ⟨c, cs', rfl, h1, h⟩ := h.cons
    cases s with
    | zero =>
      simp only [List.getElem?_cons_zero, Option.some.injEq, Prod.mk.injEq] at hs
      obtain ⟨rfl, rfl⟩ := hs
      exact ⟨x.1, c, rfl, rfl, h1⟩
    | succ s =>
      obtain ⟨y, c', e1, e2, e3⟩ := ArgsRep.get h s t m (by simpa using hs)
      exact ⟨y, c', by simpa [initT] using e1, by simpa using e2, by rw [show i + (s + 1) = i + 1 + s by omega]; exact e3⟩

theorem Mode.val_owns {t : Ty} {x : t.den} : {m : Mode} → m.owned t = true → (m.val t x).owns = true
  | .ro, h => by cases h
  | .mut n, h => h
  | .ptr n, _ => rfl

theorem Mode.val_root {t : Ty} {x : t.den} : {m : Mode} → (m.val t x).root = none
  | .ro => rfl
  | .mut _ => rfl
  | .ptr _ => rfl

theorem PRep.slot {i : Nat} {t : Ty} {x : t.den} {c : Value} {T : List V} {tm : Array Value} : {m : Mode} → PRep w L0 i t x c m → SRep L0 T tm i (m.val t x) w c
  | .ro, h => by
    obtain ⟨cells, h1, h2⟩ := h
    exact ⟨by simp, cells, h1, Own.move (fun k hk => ⟨.inl hk, rfl⟩) (fun k d rest _ hk => ⟨hk, rfl⟩) h2⟩
  | .mut n, h => by
    obtain ⟨cells, h1, h2⟩ := h
    exact ⟨by simp, cells, h1, Own.move (fun k hk => ⟨.inl hk, rfl⟩) (fun k d rest _ hk => ⟨hk, rfl⟩) h2⟩
  | .ptr n, h => by
    obtain ⟨g, cur, e, h1, h2, h3, h4, h5⟩ := h
    exact ⟨by simp, g, cur, e, h1, h2, h3, h4, Own.move (fun k hk => ⟨.inl hk, rfl⟩) (fun k d rest _ hk => ⟨hk, rfl⟩) h5⟩

theorem initT_length : {ps : List (Ty × Mode)} → {x : (pTy ps).den} → (initT ps x).length = ps.length
  | [], _ => rfl
  | (t, m) :: ps, x => by simp [initT, initT_length]

theorem slots0_get [Glob] {ps : List (Ty × Mode)} {x : (pTy ps).den} (s : Nat) : (slots0 N ps x).getD s .dead = ((initT ps x)[s]?).getD .dead := by
  unfold slots0
  rw [List.getD_eq_getElem?_getD]
  by_cases h : s < ps.length
  · rw [List.getElem?_append_left (by rw [initT_length]; exact h)]
  · rw [List.getElem?_append_right (by rw [initT_length]; omega), List.getElem?_eq_none (l := initT ps x) (by rw [initT_length]; omega)]
    rw [List.getElem?_replicate]
    split <;> rfl

theorem start_inv [Glob] {ps : List (Ty × Mode)} {x : (pTy ps).den} {args : Array Value} (hl : Legit w L0 ps) (ha : ArgsRep w L0 0 ps x args.toList) (hN : ps.length ≤ N) (vs : List Nat) :
    Inv w L0 N vs (slots0 N ps x) { tmps := args ++ Array.replicate (N - args.size) undef, defers := [] } w L0 := by
  have hlen : args.size = ps.length := by simpa using ha.len
  refine ⟨by simp; omega, by simp [slots0, initT_length]; omega, rfl, ⟨rfl, rfl, rfl, Nat.le_refl _, Nat.le_refl _, fun _ _ _ => ⟨rfl, rfl⟩, hl.glob⟩, hl.free, hl.inj, fun k s q h => ?_, fun s r h => ?_, fun s => ?_⟩
  · obtain ⟨t, m, h1, h2⟩ := hl.owner k s q h
    obtain ⟨y, c, e1, _⟩ := ha.get s t _ h1
    rw [slots0_get, e1]
    exact Mode.val_owns h2
  · rw [slots0_get] at h
    cases hp : ps[s]? with
    | none =>
      rw [List.getElem?_eq_none (by rw [initT_length]; exact List.getElem?_eq_none_iff.1 hp)] at h
      simp [V.on, V.root] at h
    | some p =>
      obtain ⟨t, m⟩ := p
      obtain ⟨y, c, e1, _⟩ := ha.get s t m hp
      rw [e1] at h
      unfold V.on at h
      rw [Option.getD_some, Mode.val_root] at h
      cases h
  · rw [slots0_get]
    cases hp : ps[s]? with
    | none =>
      rw [List.getElem?_eq_none (by rw [initT_length]; exact List.getElem?_eq_none_iff.1 hp)]
      trivial
    | some p =>
      obtain ⟨t, m⟩ := p
      obtain ⟨y, c, e1, e2, e3⟩ := ha.get s t m hp
      rw [e1]
      have hs : s < args.size := by rw [hlen]; exact (List.getElem?_eq_some_iff.1 hp).1
      have hc : (args ++ Array.replicate (N - args.size) undef).getD s undef = c := by
        rw [Array.getD_eq_getD_getElem?, Array.getElem?_append_left hs]
        rw [Array.getElem?_toList] at e2
        rw [e2]; rfl
      rw [Nat.zero_add] at e3
      rw [Option.getD_some, hc]
      exact e3.slot

theorem finLab_own {m : Nat} {mu : List (Nat × Nat)} {ss : List Src} {l : Lab} {s' : Nat} {q' : List Nat} (h : finLab m mu ss l = .own s' q') :
    ∃ s q, l = .own s q ∧ (((s, s') ∈ mu ∧ q' = q) ∨ ∃ p y rest, ss.find? (fun p => p.s == s) = some p ∧ q = y :: rest ∧ y < p.sz ∧ s' = m ∧ q' = (p.o + y) :: rest) := by
  cases l with
  | own s q =>
    unfold finLab at h
    dsimp only at h
    split at h
    · rename_i p hp
      injection h with h1 h2
      have n1 : p.1 = s := by simpa using List.find?_some hp
      refine ⟨s, _, rfl, .inl ⟨?_, h2.symm⟩⟩
      have := List.mem_of_find?_eq_some hp
      rw [← n1, ← h1]
      exact this
    · split at h
      · rename_i p hp
        split at h
        · split at h
          · split at h
            · injection h with h1 h2
              exact ⟨s, _, rfl, .inr ⟨p, _, _, hp, rfl, by assumption, h1.symm, h2.symm⟩⟩
            · cases h
          · cases h
        · cases h
      · cases h
  | stable => cases h
  | free => cases h
  | other => cases h

/-- What the end of a body says. -/
theorem fin_ok [Glob] (hI : Inv w0 L0 N vs T a w L) (hC : CtxOk P C) {ps : List (Ty × Mode)} {rs : List (Ty × Nat)} {sl : List RV} {r : (Ty.pair (rTy rs) (mTy ps)).den} {log : List Nat} {A0 : List Value} (h : (finM C ps rs sl).Runs T r log)
    (hl : ps.length = A0.length) (hA : ∀ j, (∃ t m, ps[j]? = some (t, m) ∧ m ≠ .ro) → A0[j]? = some (a.tmps.getD j undef)) :
    ∃ L' cs, FinVals P w a sl cs ∧ Left w0 w L0 L' ps rs ∧ ResRep w L' ps.length 0 rs r.1 cs ∧ MutRep w L' 0 ps r.2 A0 := by
  obtain ⟨R, l1, l2, rfl, h1, h⟩ := M.runs_bind h
  obtain ⟨⟨m, mu⟩, l3, l4, rfl, h2, hc, rfl, _⟩ := M.runs_bind h
  simp only [Bool.and_eq_true, List.all_eq_true, Bool.not_eq_true'] at hc
  obtain ⟨⟨⟨hnd, hls⟩, hmu⟩, hnm⟩ := hc
  have nmem : ∀ {x : Nat} {l : List Nat}, l.contains x = false → x ∉ l := fun h hm => by rw [List.contains_iff_mem.2 hm] at h; cases h
  obtain ⟨cs, k0, k1, k2, k3⟩ := resM_rep hI hC h1
  have hmm := outM_mu h2
  have hsrc : ∀ p ∈ R.ss, p.s ∉ mu.map (·.1) := fun p hp hm => nmem (hmu p.s hm) (List.mem_map_of_mem hp)
  refine ⟨fun k => finLab ps.length mu R.ss (L k), cs, k0, ⟨hI.fr.os, hI.fr.tape, hI.fr.output, hI.fr.size, hI.fr.drawn, fun k hk h0 => ?_, fun k hk => by rw [hI.free k hk]; rfl, fun k k' s q e e' => ?_, fun k s q e => ?_⟩,
    k3 _ _ (fun k hk => by rw [hk]; rfl) (fun k r q hr hk => ?_) (fun p k i rest hp hk hi => ?_), outM_rep hI h2 hl (fun j hj => by rw [Nat.zero_add]; exact hA j hj) _ (fun k hk => by rw [hk]; rfl) (fun k s j q hm hk => ?_)⟩
  · have := hI.fr.keep k hk h0
    refine ⟨?_, this.2⟩
    rw [this.1]
    rcases h0 with h0 | h0 <;> rw [h0] <;> rfl
  · obtain ⟨s1, q1, e1, e2⟩ := finLab_own e
    obtain ⟨s2, q2, e3, e4⟩ := finLab_own e'
    have hlt : ∀ s j, (s, j) ∈ mu → j < ps.length := fun s j hs => by
      obtain ⟨_, ⟨t, n, h, _⟩, _⟩ := hmm s j hs
      exact (List.getElem?_eq_some_iff.1 (by simpa using h)).1
    rcases e2 with ⟨h1, rfl⟩ | ⟨p, y, rest, h1, rfl, h3, rfl, rfl⟩
    · rcases e4 with ⟨h2, rfl⟩ | ⟨p, y, rest, h2, rfl, h3, rfl, _⟩
      · obtain rfl := (hmm s2 s h2).2.2 s1 h1
        exact hI.inj k k' _ _ e1 e3
      · exact absurd (hlt _ _ h1) (Nat.lt_irrefl _)
    · rcases e4 with ⟨h2, rfl⟩ | ⟨p', y', rest', h2, rfl, h4, _, h5⟩
      · exact absurd (hlt _ _ h2) (Nat.lt_irrefl _)
      · injection h5 with h5 h6
        subst h6
        have m1 := List.mem_of_find?_eq_some h1
        have m2 := List.mem_of_find?_eq_some h2
        have n1 : p.s = s1 := by simpa using List.find?_some h1
        have n2 : p'.s = s2 := by simpa using List.find?_some h2
        by_cases hs : s1 = s2
        · subst hs
          rw [h1] at h2
          injection h2 with h2
          subst h2
          have : y = y' := by omega
          subst this
          exact hI.inj k k' _ _ e1 e3
        · have := k2 p p' m1 m2 (by rw [n1, n2]; exact hs)
          omega
  · obtain ⟨s1, q1, e1, e2⟩ := finLab_own e
    rcases e2 with ⟨h1, rfl⟩ | ⟨p, y, rest, h1, rfl, h3, rfl, rfl⟩
    · obtain ⟨_, ⟨t, n, h, h'⟩, _⟩ := hmm _ _ h1
      exact .inr ⟨t, n, by simpa using h, h'⟩
    · obtain ⟨_, t, h2, h3, h4⟩ := k1 p (List.mem_of_find?_eq_some h1)
      exact .inl ⟨rfl, t, p.n, h2, .inl ⟨h3, h4⟩⟩
  · rw [hk]
    have := hls r hr
    exact finLab_lend (nmem this.2) (nmem this.1)
  · rw [hk, finLab_src hnd (hsrc p hp) hp hi]
    exact ⟨fun h => by rw [if_pos h], fun h => by rw [if_neg (by omega)]⟩
  · rw [hk]
    unfold finLab
    dsimp only
    rw [find_mu hnm hm]

/-- The same where a pointer to a variable is the result. -/
theorem finP_ok [Glob] (hI : Inv w0 L0 N vs T a w L) {ps : List (Ty × Mode)} {rs : List (Ty × Nat)} {sl : List RV} {r : (Ty.pair (rTy rs) (mTy ps)).den} {log : List Nat} {A0 : List Value} (h : (finPM ps rs sl).Runs T r log)
    (hl : ps.length = A0.length) (hA : ∀ j, (∃ t m, ps[j]? = some (t, m) ∧ m ≠ .ro) → A0[j]? = some (a.tmps.getD j undef)) :
    ∃ L' cs, FinVals P w a sl cs ∧ Left w0 w L0 L' ps rs ∧ ResTop w L' ps.length rs r.1 cs ∧ MutRep w L' 0 ps r.2 A0 := by
  unfold finPM at h
  split at h
  · rename_i _ t n s
    obtain ⟨log', rfl, h⟩ := h
    have hb := M.runs_bind (m := boxOf s (T.getD s .dead)) h
    clear h
    obtain ⟨⟨sb, z⟩, l3, l4, rfl, hbx, h⟩ := hb
    obtain ⟨hv, hsame⟩ := boxOf_rep hI hbx
    obtain ⟨k, t', y⟩ := z
    dsimp only at h hv
    have hs := hI.slots sb
    rw [hv] at hs
    split at h
    · rename_i ht
      subst ht
      split at h
      · rename_i hk
        obtain ⟨⟨m, mu⟩, l1, l2, rfl, h2, hnd, rfl, _⟩ := M.runs_bind h
        have hmm := outM_mu h2
        have hnd' : nodupB (((sb, ps.length) :: mu).map (·.1)) = true := hnd
        have hlt : ∀ s j, (s, j) ∈ mu → j < ps.length := fun s j hs => by
          obtain ⟨_, ⟨t, n, h, _⟩, _⟩ := hmm s j hs
          exact (List.getElem?_eq_some_iff.1 (by simpa using h)).1
        have huniq : ∀ s1 s2 j, (s1, j) ∈ (sb, ps.length) :: mu → (s2, j) ∈ (sb, ps.length) :: mu → s1 = s2 := by
          intro s1 s2 j h1 h2
          rcases List.mem_cons.1 h1 with h1 | h1
          · injection h1 with e1 e2
            rcases List.mem_cons.1 h2 with h2 | h2
            · injection h2 with e3 e4
              rw [e1, e3]
            · exact absurd (hlt _ _ h2) (by omega)
          · rcases List.mem_cons.1 h2 with h2 | h2
            · injection h2 with e3 e4
              exact absurd (hlt _ _ h1) (by omega)
            · exact (hmm s2 j h2).2.2 s1 h1
        have hown : ∀ {l : Lab} {s' : Nat} {q' : List Nat}, finLab ps.length ((sb, ps.length) :: mu) [] l = .own s' q' → ∃ s1, l = .own s1 q' ∧ (s1, s') ∈ (sb, ps.length) :: mu := by
          intro l s' q' e
          obtain ⟨s1, q1, e1, e2⟩ := finLab_own e
          rcases e2 with ⟨h1, rfl⟩ | ⟨p, y, rest, h1, _⟩
          · exact ⟨s1, e1, h1⟩
          · simp at h1
        have hto : ∀ {s1 j : Nat} {q : List Nat}, (s1, j) ∈ (sb, ps.length) :: mu → finLab ps.length ((sb, ps.length) :: mu) [] (.own s1 q) = .own j q := by
          intro s1 j q hm
          unfold finLab
          dsimp only
          rw [find_mu hnd' hm]
        obtain ⟨_, g, cur, e, hf, hL, hg, hz, ho⟩ := hs
        rw [← hsame] at hf
        refine ⟨fun k => finLab ps.length ((sb, ps.length) :: mu) [] (L k), [a.tmps.getD s undef], ⟨_, [], rfl, rfl, rfl⟩, ⟨hI.fr.os, hI.fr.tape, hI.fr.output, hI.fr.size, hI.fr.drawn, fun k hk h0 => ?_, fun k hk => by rw [hI.free k hk]; rfl, fun k k' s1 q e e' => ?_, fun k s1 q e => ?_⟩,
          .inr ⟨by omega, _, rfl, g, cur, e, hf, by show finLab _ _ _ (L g) = _; rw [hL]; exact hto (by simp), hg, hz, ?_⟩, outM_rep hI h2 hl (fun j hj => by rw [Nat.zero_add]; exact hA j hj) _ (fun k hk => by rw [hk]; rfl) (fun k s1 j q hm hk => by rw [hk]; exact hto (List.mem_cons_of_mem _ hm))⟩
        · have := hI.fr.keep k hk h0
          refine ⟨?_, this.2⟩
          rw [this.1]
          rcases h0 with h0 | h0 <;> rw [h0] <;> rfl
        · obtain ⟨a1, e1, e2⟩ := hown e
          obtain ⟨a2, e3, e4⟩ := hown e'
          obtain rfl := huniq _ _ _ e2 e4
          exact hI.inj k k' _ _ e1 e3
        · obtain ⟨a1, e1, e2⟩ := hown e
          rcases List.mem_cons.1 e2 with e2 | e2
          · injection e2 with _ e2
            exact .inl ⟨e2, t', n, by simp, .inr (by omega)⟩
          · obtain ⟨_, ⟨t, n, h, h'⟩, _⟩ := hmm _ _ e2
            exact .inr ⟨t, n, by simpa using h, h'⟩
        · have hkn : n - 1000 = k := by omega
          rw [hkn]
          refine Own.move (fun k hk => ⟨?_, rfl⟩) (fun k d rest _ hk => ⟨by show finLab _ _ _ (L k) = _; rw [hk]; exact hto (by simp), rfl⟩) ho
          show finLab _ _ _ (L k) = _
          rcases hk with hk | ⟨_, _, hk, _⟩
          · rw [hk]; rfl
          · cases hk
      · exact h.elim
    · exact h.elim
  · exact h.elim

theorem run_results {fn : Func} {sl : List RV} {cs : List Value} (hr : fn.results.toList = sl.map RV.var) (hf : FinVals P w a sl cs) : (results fn a.tmps).run P w = .ok (resVal cs) w := by
  have hm : ∀ g : ResultVar → Sem Value, (∀ t, g (.tmp t) = pure (a.tmps.getD t undef)) → (∀ s X, g (.cell s X) = (do loadVar X (← asAddr (a.tmps.getD s undef)))) → (fn.results.mapM g).run P w = .ok cs.toArray w := by
    intro g hg1 hg2
    rw [Array.mapM_eq_mapM_toList, hr]
    have : ∀ (sl : List RV) (cs : List Value), FinVals P w a sl cs → ((sl.map RV.var).mapM g).run P w = .ok cs w := by
      intro sl
      induction sl with
      | nil => intro cs h; obtain rfl : cs = [] := h; simp
      | cons s sl ih =>
        intro cs h
        obtain ⟨c, cs', rfl, h1, h2⟩ := h
        have hrun : (g s.var).run P w = .ok c w := by
          cases s with
          | tmp t =>
            obtain rfl : c = _ := h1
            show (g (.tmp t)).run P w = _
            rw [hg1]; rfl
          | cell t X =>
            obtain ⟨A, h3, h4⟩ := h1
            show (g (.cell t X)).run P w = _
            rw [hg2, h3]
            simp [asAddr, h4]
        simp only [List.map_cons, List.mapM_cons, Sem.run_bind, hrun, Result.andThen_ok, ih cs' h2, Sem.run_pure]
    have h2 := this sl cs hf
    simp only [Sem.run_map, h2, Result.andThen_ok]
  unfold results
  rw [Sem.run_bind, hm _ (fun t => rfl) (fun s X => rfl), Result.andThen_ok, Sem.run_pure]
  match cs with
  | [] => rfl
  | [s] => rfl
  | s :: s' :: l => rfl

theorem mkFn_ok [Glob] {tab : Tab} {keep : Nat → Option Nat} {hx : Hints} {ps : List (Ty × Mode)} {rs : List (Ty × Nat)} {sl : List RV} {c : Code} {f : FuncId} {fn : Func} (hmix : P.follows .mixedOrders = true) (hC : CtxOk P C) (htab : TabOk P tab)
    (hf : P.funcs[f]? = some fn) (hname : (fn.name == "runtime.NumGoroutine") = false) (hb : fn.body = some c) (hN : fn.ntmps = N) (hr : fn.results.toList = sl.map RV.var) (hps : ps.length ≤ N) :
    FnOk P f (mkFn C tab vs N keep hx ps rs sl c) := by
  refine ⟨⟨fn, hf, hname, by rw [hb]; rfl⟩, fun x r hsem w L0 args hl ha => ?_⟩
  change Legit w L0 ps at hl
  change ArgsRep w L0 0 ps x args.toList at ha
  have hlen : args.size = ps.length := by have := ha.len; rw [← this]; simp
  refine calls_of_wp hf hb ?_
  rw [hN]
  have hst : StepOk P w L0 vs (mkEnv C tab vs N keep hx ps) := stepM_ok hmix hC htab rfl
  let A0 : Array Value := args ++ Array.replicate (N - args.size) undef
  have hJ : J w L0 vs (mkEnv C tab vs N keep hx ps) A0 (slots0 N ps x) { tmps := args ++ Array.replicate (N - args.size) undef, defers := [] } w := ⟨⟨L0, start_inv hl ha hps vs⟩, fun _ _ => rfl⟩
  refine wp_mono (denK_sound (A0 := A0) hst hsem _ _ hJ) ?_
  rintro e a' w' ⟨ex, T', rfl, hk, ⟨L, hI⟩, hpin⟩
  have hpins : ∀ j, (∃ t m, ps[j]? = some (t, m) ∧ m ≠ .ro) → args.toList[j]? = some (a'.tmps.getD j undef) := fun j hj => by
    have hm : (mkEnv C tab vs N keep hx ps).pins j = true := by
      show (muts 0 ps).contains j = true
      rw [List.contains_iff_mem]
      exact muts_mem.2 ⟨Nat.zero_le _, by simpa using hj⟩
    obtain ⟨t, n, hj, _⟩ := hj
    have hlt : j < args.size := by rw [hlen]; exact (List.getElem?_eq_some_iff.1 hj).1
    rw [hpin j hm]
    show _ = some ((args ++ Array.replicate (N - args.size) undef).getD j undef)
    rw [Array.getD_eq_getD_getElem?, Array.getElem?_append_left hlt]
    simp [hlt]
  have hfin : ∀ {log : List Nat}, (bif lowR rs then finM C ps rs sl else finPM ps rs sl).Runs T' r log → a'.defers = [] ∧ ∃ v, (results fn a'.tmps).run P w' = .ok v w' ∧ ∃ cs L', Ending.returned v = .returned (resVal cs) ∧ Left w w' L0 L' ps rs ∧ ResTop w' L' ps.length rs r.1 cs ∧ MutRep w' L' 0 ps r.2 args.toList := by
    intro log hrun
    cases hlr : lowR rs with
    | true =>
      rw [hlr] at hrun
      obtain ⟨L', cs, h0, h1, h2, h3⟩ := fin_ok hI hC hrun (A0 := args.toList) (by simpa using hlen.symm) hpins
      exact ⟨hI.dfr, _, run_results hr h0, _, L', rfl, h1, (ResTop.low hlr).2 h2, h3⟩
    | false =>
      rw [hlr] at hrun
      obtain ⟨L', cs, h0, h1, h2, h3⟩ := finP_ok hI hrun (A0 := args.toList) (by simpa using hlen.symm) hpins
      exact ⟨hI.dfr, _, run_results hr h0, _, L', rfl, h1, h2, h3⟩
  cases ex with
  | ext i => cases hk
  | nrm =>
    obtain ⟨r', log, h1, h2⟩ := M.runK_some hk
    injection h2 with h2
    subst h2
    exact hfin h1
  | ret =>
    obtain ⟨r', log, h1, h2⟩ := M.runK_some hk
    injection h2 with h2
    subst h2
    exact hfin h1

end
end Go.Proofs.YtamkkancfmbanaaDoor.P.Am

set_option linter.unusedVariables false
set_option linter.unusedSimpArgs false
namespace Go.Proofs.YtamkkancfmbanaaDoor.P.Am

/-! ## 32. The table of types is checked -/
abbrev Tys := List (Nat × Ty × Nat)

def lookT : Tys → TypeId → Option (Ty × Nat)
  | [], _ => none
  | (k, t) :: l, T => cond (k == T) (some t) (lookT l T)

def mkCtx (tys : Tys) : Ctx := { ty := fun T => (lookT tys T).map (·.1), bytes := fun T => ((lookT tys T).map (·.2)).getD 0 }

def zcellB : Value → Value → Bool
  | .int k n, .int k' n' => k == k' && n == n'
  | .bool b, .bool b' => b == b'
  | .string s, .string s' => s.size == 0 && s'.size == 0
  | .pointer none, .pointer none => true
  | .nilFunc, .nilFunc => true
  | .nilIface, .nilIface => true
  | .slice none a b, .slice none a' b' => a == a' && b == b'
  | _, _ => false

def zcellsB : List Value → List Value → Bool
  | [], [] => true
  | a :: l, b :: l' => zcellB a b && zcellsB l l'
  | _, _ => false

def formB (t : Ty) (z : Value) : Bool := match t with
  | .agg _ => match z with
    | .agg cs => zcellsB t.zcells cs.toList
    | _ => false
  | _ => zcellsB t.zcells [z]

theorem bytes_nil {s : ByteArray} (h : (s.size == 0) = true) : s = ByteArray.empty := by
  obtain ⟨d⟩ := s
  have : d.size = 0 := by simpa [ByteArray.size] using h
  have : d = #[] := Array.eq_empty_of_size_eq_zero this
  rw [this]; rfl

theorem zcellB_eq [Glob] {a b : Value} (h : zcellB a b = true) : a = b := by
  unfold zcellB at h
  split at h
  · simp only [Bool.and_eq_true, beq_iff_eq] at h; rw [h.1, h.2]
  · simp only [beq_iff_eq] at h; rw [h]
  · simp only [Bool.and_eq_true] at h; rw [bytes_nil h.1, bytes_nil h.2]
  · rfl
  · rfl
  · rfl
  · simp only [Bool.and_eq_true, beq_iff_eq] at h; rw [h.1, h.2]
  · cases h

theorem zcellsB_eq [Glob] : {l l' : List Value} → zcellsB l l' = true → l = l'
  | [], [], _ => rfl
  | a :: l, b :: l', h => by
    simp only [zcellsB, Bool.and_eq_true] at h
    rw [zcellB_eq h.1, zcellsB_eq h.2]
  | [], _ :: _, h => by simp [zcellsB] at h
  | _ :: _, [], h => by simp [zcellsB] at h

theorem formB_eq [Glob] {t : Ty} {z : Value} (h : formB t z = true) : Form t t.zcells z := by
  unfold formB at h
  split at h
  · split at h
    · rename_i cs
      have := zcellsB_eq h
      show Value.agg cs = _
      rw [this]
    · cases h
  · have := zcellsB_eq h
    cases t with
    | agg t => rename_i hn; exact absurd rfl (hn t)
    | _ => exact this

def fieldsB (C : Ctx) (t : Ty) : Nat → List Field → Bool
  | i, [] => (compT i t).isNone
  | i, f :: l => (match compT i t, C.ty f.type with
    | some (o, t1), some t2 => o == f.offset && decide (t1 = t2) && t1.sz != 0 && f.name != "_"
    | _, _ => false) && fieldsB C t (i + 1) l

def elemsB (te : Ty) (t : Ty) : Nat → Nat → Bool
  | k, 0 => (compT (k + 1) t).isNone
  | k, m + 1 => (match compT (k + 1) t with
    | some (o, t1) => o == k * te.sz && decide (t1 = te)
    | none => false) && elemsB te t (k + 1) m

theorem elemsB_ok {te t : Ty} : {m k : Nat} → elemsB te t k m = true → (∀ j, j < m → compT (k + j + 1) t = some ((k + j) * te.sz, te)) ∧ compT (k + m + 1) t = none
  | 0, k, h => ⟨fun j hj => absurd hj (by omega), by simpa [elemsB] using h⟩
  | m + 1, k, h => by
    simp only [elemsB, Bool.and_eq_true] at h
    obtain ⟨h1, h2⟩ := h
    obtain ⟨h3, h4⟩ := elemsB_ok h2
    refine ⟨fun j hj => ?_, by rw [show k + (m + 1) + 1 = k + 1 + m + 1 by omega]; exact h4⟩
    cases j with
    | zero =>
      split at h1
      · rename_i o t1 hc
        simp only [Bool.and_eq_true, beq_iff_eq, decide_eq_true_eq] at h1
        obtain ⟨rfl, rfl⟩ := h1
        simpa using hc
      · cases h1
    | succ j =>
      have := h3 j (by omega)
      rwa [show k + 1 + j = k + (j + 1) by omega] at this

def arrB (C : Ctx) (t : Ty) (n : Nat) (e : TypeId) : Bool := match C.ty e with
  | some te => !te.isAgg && decide (2 ≤ n) && elemsB te t 0 n
  | none => false

def undB (P : Program) (C : Ctx) (T : TypeId) (t : Ty) : Bool := match t, P.underlying T with
  | .int k, some (.int k') => k == k'
  | .bool, some .bool => true
  | .str, some .string => true
  | .raw _, some (.pointer _) => true
  | .raw _, some (.func ..) => true
  | .raw _, some (.interface _) => true
  | .agg t', some (.struct fs) => !t'.isArr && (fieldsB C t' 0 fs.toList && !P.stoodInHeld T && !P.eqGuardType P.depth T)
  | .agg t', some (.array n e) => t'.isArr && arrB C t' n e
  | .slice e t', some (.slice e') => e == e' && decide (C.ty e = some t')
  | _, _ => false

def tyB (P : Program) (C : Ctx) (T : TypeId) (t : Ty) : Bool := (match P.info? T with
  | some i => i.size == t.sz && i.bytes == C.bytes T && (match i.zero with
    | some z => formB t z
    | none => false)
  | none => false) && undB P C T t

theorem compT_none {t : Ty} : {i : Nat} → compT i t = none → ∀ j, i ≤ j → compT j t = none := by
  have step : ∀ (i : Nat) (t : Ty), compT i t = none → compT (i + 1) t = none := by
    intro i
    induction i with
    | zero => intro t h; cases t <;> simp [compT] at h
    | succ i ih =>
      intro t h
      cases t with
      | pair a b =>
        simp only [compT, Option.map_eq_none_iff] at h ⊢
        exact ih b h
      | _ => rfl
  intro i h j hj
  induction hj with
  | refl => exact h
  | step _ ih => exact step _ _ ih

theorem fieldsB_ok {C : Ctx} {t : Ty} : {i : Nat} → {l : List Field} → fieldsB C t i l = true → (∀ (j : Nat) (f : Field), l[j]? = some f → ∃ t1, compT (i + j) t = some (f.offset, t1) ∧ C.ty f.type = some t1 ∧ t1.sz ≠ 0 ∧ f.name ≠ "_") ∧ compT (i + l.length) t = none
  | i, [], h => ⟨fun j f hj => by simp at hj, by simpa [fieldsB] using h⟩
  | i, f :: l, h => by
    simp only [fieldsB, Bool.and_eq_true] at h
    obtain ⟨h1, h2⟩ := h
    obtain ⟨h3, h4⟩ := fieldsB_ok h2
    refine ⟨fun j f' hj => ?_, by rw [List.length_cons, show i + (l.length + 1) = i + 1 + l.length by omega]; exact h4⟩
    cases j with
    | zero =>
      simp only [List.getElem?_cons_zero, Option.some.injEq] at hj
      subst hj
      split at h1
      · rename_i o t1 t2 hc ht
        simp only [Bool.and_eq_true, beq_iff_eq, decide_eq_true_eq, bne_iff_ne] at h1
        obtain ⟨⟨⟨rfl, rfl⟩, h5⟩, h6⟩ := h1
        exact ⟨t1, by rw [Nat.add_zero]; exact hc, ht, h5, h6⟩
      · cases h1
    | succ j =>
      have := h3 j f' (by simpa using hj)
      rwa [show i + 1 + j = i + (j + 1) by omega] at this

theorem undB_ok [Glob] {P : Program} {C : Ctx} {T : TypeId} {t : Ty} : undB P C T t = true → match t with
    | .int k => P.underlying T = some (.int k)
    | .bool => P.underlying T = some .bool
    | .str => P.underlying T = some .string
    | .raw _ => ∃ d, P.underlying T = some d ∧ (∀ fs, d ≠ .struct fs) ∧ ∀ n e, d ≠ .array n e
    | .agg t' => (t'.isArr = false ∧ (∃ fs, P.underlying T = some (.struct fs) ∧ fieldsOk C t' fs) ∧ P.stoodInHeld T = false ∧ P.eqGuardType P.depth T = false) ∨ (t'.isArr = true ∧ ArrOk P C T t')
    | .slice e t' => P.underlying T = some (.slice e) ∧ C.ty e = some t'
    | _ => False := by
  intro h
  unfold undB at h
  split at h
  · rename_i hu; rw [beq_iff_eq] at h; subst h; exact hu
  · assumption
  · assumption
  · rename_i hu; exact ⟨_, hu, by simp, by simp⟩
  · rename_i hu; exact ⟨_, hu, by simp, by simp⟩
  · rename_i hu; exact ⟨_, hu, by simp, by simp⟩
  · rename_i t' fs hu
    simp only [Bool.and_eq_true, Bool.not_eq_true'] at h
    obtain ⟨h0, ⟨h1, h2⟩, h3⟩ := h
    obtain ⟨h4, h5⟩ := fieldsB_ok h1
    refine .inl ⟨h0, ⟨fs, hu, fun i f hf => ?_, fun i r hr => ?_⟩, h2, h3⟩
    · have := h4 i f (by simpa using hf)
      rwa [Nat.zero_add] at this
    · rcases Nat.lt_or_ge i fs.size with h | h
      · exact h
      · rw [Nat.zero_add, Array.length_toList] at h5
        rw [compT_none h5 i h] at hr
        cases hr
  · rename_i t' n e hu
    simp only [Bool.and_eq_true] at h
    obtain ⟨h0, h1⟩ := h
    unfold arrB at h1
    split at h1
    · rename_i te hte
      simp only [Bool.and_eq_true, Bool.not_eq_true', decide_eq_true_eq] at h1
      obtain ⟨⟨h2, h3⟩, h4⟩ := h1
      obtain ⟨h5, h6⟩ := elemsB_ok h4
      refine .inr ⟨h0, n, e, te, hu, hte, h2, h3, fun k hk => ?_, fun k r hr => ?_⟩
      · have := h5 k hk
        simpa using this
      · rcases Nat.lt_or_ge k n with h | h
        · exact h
        · rw [Nat.zero_add] at h6
          rw [compT_none h6 (k + 1) (by omega)] at hr
          cases hr
    · cases h1
  · rename_i hu
    simp only [Bool.and_eq_true, beq_iff_eq, decide_eq_true_eq] at h
    obtain ⟨rfl, h2⟩ := h
    exact ⟨hu, h2⟩
  · cases h

theorem tyB_ok [Glob] {P : Program} {C : Ctx} {T : TypeId} {t : Ty} (h : tyB P C T t = true) : TyOk P C T t := by
  unfold tyB at h
  simp only [Bool.and_eq_true] at h
  obtain ⟨h1, h2⟩ := h
  refine ⟨?_, by have h3 := undB_ok h2; cases t <;> exact h3⟩
  split at h1
  · rename_i i hi
    simp only [Bool.and_eq_true, beq_iff_eq] at h1
    obtain ⟨⟨h3, h4⟩, h5⟩ := h1
    split at h5
    · rename_i z hz
      exact ⟨i, z, hi, h3, h4, hz, formB_eq h5⟩
    · cases h5
  · cases h1

theorem lookT_mem {T : TypeId} {p : Ty × Nat} : {l : Tys} → lookT l T = some p → (T, p) ∈ l
  | [], h => by cases h
  | (k, t) :: l, h => by
    simp only [lookT] at h
    cases hk : k == T with
    | true =>
      rw [hk] at h
      injection h with h
      rw [beq_iff_eq] at hk
      subst h hk
      simp
    | false =>
      rw [hk] at h
      exact List.mem_cons_of_mem _ (lookT_mem h)

theorem ctx_ok [Glob] {P : Program} {tys : Tys} (h : tys.all (fun p => tyB P (mkCtx tys) p.1 p.2.1) = true) : CtxOk P (mkCtx tys) := by
  intro T t ht
  obtain ⟨p, hp, rfl⟩ := Option.map_eq_some_iff.1 ht
  rw [List.all_eq_true] at h
  exact tyB_ok (h _ (lookT_mem hp))

end Go.Proofs.YtamkkancfmbanaaDoor.P.Am
