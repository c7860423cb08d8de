/- A part of the proof: Am29. No conditions. -/
import Derived.Test.YtdfcejijcnhcaaaCAm28
import Derived.Conc.Own4
set_option linter.unusedVariables false
set_option linter.unusedSimpArgs false
namespace Go.Proofs.Ytdfcejijcnhcaaa.C.Am

/-! ## 29. The step of a call -/
def tupC : (rs : List (Ty × Nat)) → (rTy rs).den → List (Nat × Option (Nat × (t : Ty) × t.den))
  | [], _ => []
  | (t, n) :: rs, x => (t.sz, some (n, ⟨t, x.1⟩)) :: tupC rs x.2

/-- The value of a call's slot. -/
def resV (vs ls : List Nat) : (rs : List (Ty × Nat)) → (rTy rs).den → Option V
  | [(t, n)], x => if t.depth ≤ n then some (.d none n t x.1) else match ls with
    | [] => some (.d none n t x.1)
    | l :: ls' => cond (ls'.all (· == l) && vs.contains l) (some (.d (some l) n t x.1)) none
  | rs, x => cond (ls.isEmpty || rs.all (fun p => decide (p.1.depth ≤ p.2))) (some (.tup (tupC rs x))) none

def mutV : (ps : List (Ty × Mode)) → (mTy ps).den → Option V
  | [], _ => none
  | (t, .mut n) :: _, x => some (.d none n t x.1)
  | (_, .ro) :: ps, x => mutV ps x

abbrev Tab := FuncId → Option Fn

def callM (C : Ctx) (tab : Tab) (vs : List Nat) (N d : Nat) (f : FuncId) (args : List Operand) : M (List (Nat × V)) :=
  match tab f with
  | none => .fail
  | some F => (argsM C 0 F.ps args).bind fun A => match A.mu with
    | [] => .bnd (.pair (rTy F.rs) (mTy F.ps)) (F.sem A.x) fun r => match resV vs A.ls F.rs r.1 with
      | some v => .ret [(d, v)]
      | none => .fail
    | [(r0, _)] => cond (A.ls.contains r0 || !decide (r0 < N)) .fail (.get r0 fun u => .bnd (.pair (rTy F.rs) (mTy F.ps)) (F.sem A.x) fun r => match resV vs A.ls F.rs r.1, mutV F.ps r.2 with
      | some v, some u' => (allM 0 N).bind fun Ts => .chk (depsOk r0 u (some r0) 0 Ts) (.ret (((r0, u') :: depsU r0 u (some r0) 0 Ts) ++ [(d, v)]))
      | _, _ => .fail)
    | _ => .fail

def TabOk (P : Program) (tab : Tab) : Prop := ∀ f F, tab f = some F → FnOk P f F

section
variable {P : Program} {C : Ctx} {w w' w0 : World} {S S' : Nat → Prop} {L L' L0 : Nat → Lab} {s N : Nat} {vs : List Nat} {T T' : List V} {tm tm' : Array Value} {a : Act}

theorem mutV_rep : {ps : List (Ty × Mode)} → {i : Nat} → {x : (mTy ps).den} → {cs : List Value} → {v : V} → MutRep w L0 i ps x cs → mutV ps x = some v →
    ∃ j t n y c cells, ps[j]? = some (t, .mut n) ∧ v = .d none n t y ∧ cs[j]? = some c ∧ Form t cells c ∧ Own w L0 (fun k => L0 k = .stable) (i + j) n t y [] 0 cells
  | [], _, _, _, _, _, hv => by cases hv
  | (t, .mut n) :: ps, i, x, cs, v, h, hv => by
    simp only [MutRep] at h
    obtain ⟨c, cs', cells, rfl, h1, h2, _⟩ := h
    simp only [mutV, Option.some.injEq] at hv
    exact ⟨0, t, n, x.1, c, cells, rfl, hv.symm, rfl, h1, h2⟩
  | (t, .ro) :: ps, i, x, cs, v, h, hv => by
    simp only [MutRep] at h
    obtain ⟨c, cs', rfl, h⟩ := h
    simp only [mutV] at hv
    obtain ⟨j, t', n, y, c', cells, h1, h2, h3, h4, h5⟩ := mutV_rep h hv
    exact ⟨j + 1, t', n, y, c', cells, by simpa using h1, h2, by simpa using h3, h4, by rw [show i + (j + 1) = i + 1 + j by omega]; exact h5⟩

/-- What the callee gave, seen by the caller. -/
theorem back_own {mu : Option (Nat × Nat)} {ls : List Nat} {ps : List (Ty × Mode)} {rs : List (Ty × Nat)} {m d : Nat} (hI : Inv w0 L0 N vs T a w L) (hleft : Left w w' (fun k => toCallee mu ls (L k)) L' ps rs)
    {l : Option Nat} {n : Nat} {t : Ty} {x : t.den} {q : List Nat} {o : Nat} {cs : List Value} (hl : t.depth ≤ n ∨ ∀ r ∈ ls, l = some r)
    (h : Own w' L' (fun k => L' k = .stable) m n t x q o cs) : Own w' (backLab mu m d L L') (SL (backLab mu m d L L') l) d n t x q o cs := by
  have hown : ∀ k q', L' k = .own m q' → backLab mu m d L L' k = .own d q' := by
    intro k q' hk
    have hp : InPlay mu (L k) := by
      apply Classical.byContradiction
      intro hp
      have hlt : k < w.heap.size := hI.lt (fun e => hp (.inl e))
      have h9 := (hleft.keep k hlt (toCallee_out hp)).1
      rw [hk] at h9
      rcases toCallee_out (ls := ls) hp with h | h <;> rw [h] at h9 <;> cases h9
    rw [backLab_in hp, hk]
    simp [fromCallee]
  rcases hl with hl | hl
  · exact Own.move (S := fun _ => False) (fun k hk => hk.elim) (fun k dd rest _ hk => ⟨hown k _ hk, rfl⟩) (Own.full hl h)
  · refine Own.move (fun k hk => ⟨?_, rfl⟩) (fun k dd rest _ hk => ⟨hown k _ hk, rfl⟩) h
    by_cases hp : InPlay mu (L k)
    · left; rw [backLab_in hp, hk]; rfl
    · have hlt : k < w.heap.size := hI.lt (fun e => hp (.inl e))
      have h9 := (hleft.keep k hlt (toCallee_out hp)).1
      rw [hk] at h9
      unfold SL
      rw [backLab_out hp]
      cases hlk : L k with
      | stable => exact .inl rfl
      | own s q' =>
        right
        rw [hlk] at h9
        unfold toCallee at h9
        refine ⟨s, q', hl s ?_, rfl⟩
        cases mu with
        | none =>
          dsimp only at h9
          split at h9
          · rename_i hc; simpa using hc
          · cases h9
        | some p =>
          obtain ⟨r, i⟩ := p
          dsimp only at h9
          split at h9
          · cases h9
          · split at h9
            · rename_i hc; simpa using hc
            · cases h9
      | other => rw [hlk] at h9; cases h9
      | free => exact absurd (.inl hlk) hp

theorem tupC_rep {mu : Option (Nat × Nat)} {ls : List Nat} {ps : List (Ty × Mode)} {rs0 : List (Ty × Nat)} {m d : Nat} (hI : Inv w0 L0 N vs T a w L) (hleft : Left w w' (fun k => toCallee mu ls (L k)) L' ps rs0) :
    {rs : List (Ty × Nat)} → {o : Nat} → {x : (rTy rs).den} → {cs : List Value} → (ls = [] ∨ ∀ p ∈ rs, p.1.depth ≤ p.2) → ResRep w' L' m o rs x cs → TRep w' (backLab mu m d L L') d o (tupC rs x) cs
  | [], _, _, _, _, h => h
  | (t, n) :: rs, o, x, cs, hl, h => by
    simp only [ResRep] at h
    obtain ⟨c, cs', cells, rfl, h1, h2, h3⟩ := h
    refine ⟨c, cs', rfl, fun n' t' x' hc => ?_, tupC_rep hI hleft (hl.imp id fun h p hp => h p (by simp [hp])) h3⟩
    simp only [Option.some.injEq, Prod.mk.injEq] at hc
    obtain ⟨rfl, hc⟩ := hc
    cases hc
    refine ⟨rfl, cells, h1, back_own hI hleft ?_ h2⟩
    rcases hl with rfl | hl
    · exact .inr (by simp)
    · exact .inl (hl (t, n) (by simp))

theorem tupC_owns {t : Ty} {n : Nat} : {rs : List (Ty × Nat)} → {x : (rTy rs).den} → (t, n) ∈ rs → n ≠ 0 → t.depth ≠ 0 → (tupC rs x).any (fun c => compOwns c.2) = true
  | [], _, h, _, _ => by cases h
  | (t', n') :: rs, x, h, hn, hd => by
    simp only [tupC, List.any_cons, Bool.or_eq_true]
    rcases List.mem_cons.1 h with h | h
    · injection h with h1 h2
      subst h1 h2
      left
      simp [compOwns, hn, hd]
    · exact .inr (tupC_owns h hn hd)

theorem tupC_repr {mu : Option (Nat × Nat)} {ls : List Nat} {ps : List (Ty × Mode)} {rs0 : List (Ty × Nat)} {m d : Nat} {tm' : Array Value} (hI : Inv w0 L0 N vs T a w L) (hleft : Left w w' (fun k => toCallee mu ls (L k)) L' ps rs0)
    {rs : List (Ty × Nat)} {x : (rTy rs).den} {cs : List Value} (hne : ∀ p, rs ≠ [p]) (hl : ls = [] ∨ ∀ p ∈ rs, p.1.depth ≤ p.2) (h : ResRep w' L' m 0 rs x cs) : SRep (backLab mu m d L L') T' tm' d (.tup (tupC rs x)) w' (resVal cs) := by
  refine ⟨cs.toArray, ?_, by simpa using tupC_rep hI hleft hl h⟩
  match rs, x, cs, h with
  | [], _, cs, h =>
    obtain rfl : cs = [] := h
    rfl
  | [p], _, _, _ => exact absurd rfl (hne p)
  | p :: p' :: rs, x, cs, h =>
    obtain ⟨c, cs', cells, rfl, _, _, h3⟩ := h
    obtain ⟨c', cs'', cells', rfl, _⟩ := h3
    rfl

/-- The value of a call's slot. -/
theorem resV_rep {mu : Option (Nat × Nat)} {ls : List Nat} {ps : List (Ty × Mode)} {rs : List (Ty × Nat)} {m d : Nat} (hI : Inv w0 L0 N vs T a w L) (hleft : Left w w' (fun k => toCallee mu ls (L k)) L' ps rs)
    (hm : m = ps.length) (hpm : ∀ t n, ps[m]? ≠ some (t, .mut n)) (hdl : ∀ r ∈ ls, (T'.getD r .dead).deep = true) {x : (rTy rs).den} {cs : List Value} {v : V} (h : ResRep w' L' m 0 rs x cs) (hv : resV vs ls rs x = some v) :
    (∀ r, v.on r = true → r ∈ vs) ∧ (∀ k q, L' k = .own m q → v.owns = true) ∧ ∀ tm', SRep (backLab mu m d L L') T' tm' d v w' (resVal cs) := by
  have howner : ∀ k q, L' k = .own m q → ∃ t n, (t, n) ∈ rs ∧ n ≠ 0 ∧ t.depth ≠ 0 := by
    intro k q hk
    rcases hleft.owner k m q hk with ⟨_, h⟩ | ⟨t, n, h⟩
    · exact h
    · exact absurd h (hpm t n)
  have hmany : (∀ p, rs ≠ [p]) → cond (ls.isEmpty || rs.all (fun p => decide (p.1.depth ≤ p.2))) (some (V.tup (tupC rs x))) none = some v →
      (∀ r, v.on r = true → r ∈ vs) ∧ (∀ k q, L' k = .own m q → v.owns = true) ∧ ∀ tm', SRep (backLab mu m d L L') T' tm' d v w' (resVal cs) := by
    intro hne hv
    cases hc : (ls.isEmpty || rs.all (fun p => decide (p.1.depth ≤ p.2))) with
    | false => rw [hc] at hv; cases hv
    | true =>
      rw [hc] at hv
      injection hv with hv
      subst hv
      refine ⟨fun r h => by simp [V.on, V.root] at h, fun k q hk => ?_, fun tm' => tupC_repr hI hleft hne ?_ h⟩
      · obtain ⟨t, n, h1, h2, h3⟩ := howner k q hk
        exact rfl
      · simp only [Bool.or_eq_true, List.isEmpty_iff, List.all_eq_true, decide_eq_true_eq] at hc
        exact hc
  match rs, x, h, hv, hmany, howner with
  | [], x, h, hv, hmany, howner => exact hmany (by simp) hv
  | p :: p' :: rs, x, h, hv, hmany, howner => exact hmany (by simp) hv
  | [(t, n)], x, h, hv, hmany, howner =>
    simp only [ResRep] at h
    obtain ⟨c, cs', cells, rfl, h1, h2, rfl⟩ := h
    have howns : ∀ l, ∀ k q, L' k = .own m q → (V.d l n t x.1).owns = true := by
      intro l k q hk
      obtain ⟨t', n', g1, g2, g3⟩ := howner k q hk
      simp only [List.mem_singleton, Prod.mk.injEq] at g1
      obtain ⟨rfl, rfl⟩ := g1
      simp only [V.owns, Bool.and_eq_true, bne_iff_ne]
      exact ⟨g2, g3⟩
    simp only [resV] at hv
    split at hv
    · rename_i hd
      injection hv with hv
      subst hv
      exact ⟨fun r h => by simp [V.on, V.root] at h, howns none, fun tm' => ⟨by simp, cells, h1, back_own hI hleft (.inl hd) h2⟩⟩
    · cases ls with
      | nil =>
        injection hv with hv
        subst hv
        exact ⟨fun r h => by simp [V.on, V.root] at h, howns none, fun tm' => ⟨by simp, cells, h1, back_own hI hleft (.inr (by simp)) h2⟩⟩
      | cons l ls' =>
        dsimp only at hv
        cases hc : (ls'.all (· == l) && vs.contains l) with
        | false => rw [hc] at hv; cases hv
        | true =>
          rw [hc] at hv
          injection hv with hv
          subst hv
          simp only [Bool.and_eq_true, List.all_eq_true, beq_iff_eq] at hc
          refine ⟨fun r h => ?_, howns _, fun tm' => ⟨fun r hr => ?_, cells, h1, back_own hI hleft (.inr fun r hr => ?_) h2⟩⟩
          · have : l = r := by simpa [V.on, V.root] using h
            rw [← this]
            simpa using hc.2
          · injection hr with hr
            exact hdl r (by rw [hr]; simp)
          · rcases List.mem_cons.1 hr with rfl | hr
            · rfl
            · rw [hc.1 r hr]

theorem step_call (hI : Inv w0 L0 N vs T a w L) {tab : Tab} (htab : TabOk P tab) {o : Oper} {f : FuncId} {args : Array Operand} {ats : Array TypeId} {d : Nat} {ups : List (Nat × V)} {log : List Nat}
    (ho : o.op = .call { callee := .value (.func f), args, argTypes := ats }) (hdst : o.dst = some d) (hd : d < N) (hid : (T.getD d .dead).idle = true)
    (h : (callM C tab vs N d f args.toList).Runs T ups log) : Step P o w0 L0 N vs (setAll T ups) a w := by
  unfold callM at h
  split at h
  · exact h.elim
  · rename_i F hF
    obtain ⟨⟨fn, hfn, hname, hbody⟩, hok⟩ := htab f F hF
    have hb := M.runs_bind h
    clear h
    obtain ⟨A, l1, l2, rfl, h1, h⟩ := hb
    obtain ⟨hls, hmu, hmall, hargs⟩ := argsM_rep hI h1
    have hrun := Go.Conc.run_call_body (P := P) (a := a) (w := w) ho hfn hname hbody
    have hlsd : ∀ r ∈ A.ls, r ≠ d := fun r hr => idle_ne hid (V.owns_of_deep (hls r hr))
    -- from what the callee leaves
    have fin : ∀ (mu : Option (Nat × Nat)), A.mu = mu.toList → (∀ r i, mu = some (r, i) → r ∉ A.ls) → ∀ r, F.sem A.x = some r →
        (∀ w' cs L', Left w w' (fun k => toCallee mu A.ls (L k)) L' F.ps F.rs → ResRep w' L' F.ps.length 0 F.rs r.1 cs → MutRep w' L' 0 F.ps r.2 (args.toList.map a.eval) → Inv w0 L0 N vs (setAll T ups) (a.put (some d) (resVal cs)) w' (backLab mu F.ps.length d L L')) →
        Step P o w0 L0 N vs (setAll T ups) a w := by
      intro mu hmu2 hmls r hsem hinv K Q hK
      unfold Oper.wp
      rw [hrun, Oper.upon_enter]
      have hmem : ∀ r i, mu = some (r, i) → (r, i) ∈ A.mu := fun r i h => by rw [hmu2, h]; simp
      have hlegit : Legit w (fun k => toCallee mu A.ls (L k)) F.ps := by
        refine ⟨fun k hk => by rw [hI.free k hk]; rfl, fun k k' s q h h' => ?_, fun k s q h => ?_⟩
        · obtain ⟨r1, e1, e2⟩ := toCallee_own h
          obtain ⟨r2, e3, e4⟩ := toCallee_own h'
          rw [e1] at e3
          injection e3 with e3
          injection e3 with e3 _
          subst e3
          exact hI.inj k k' _ _ e2 e4
        · obtain ⟨r1, e1, e2⟩ := toCallee_own h
          obtain ⟨_, t, n, y, h2, h3, h4, _⟩ := hmu r1 s (hmem r1 s e1)
          exact ⟨t, n, by simpa using h2, by omega, h4⟩
      have hrep := hargs (fun k => toCallee mu A.ls (L k)) (fun k hk => by rw [hk]; rfl) (fun k r q hr hk => by
        rw [hk]
        unfold toCallee
        cases mu with
        | none => dsimp only; rw [if_pos (by simpa using hr)]
        | some p =>
          obtain ⟨r0, i⟩ := p
          dsimp only
          rw [if_neg (fun e : r = r0 => hmls r0 i rfl (by rw [← e]; exact hr)), if_pos (by simpa using hr)]) (fun k r j q hm hk => by
        rw [hk]
        rw [hmu2] at hm
        cases mu with
        | none => simp at hm
        | some p =>
          obtain ⟨r0, i⟩ := p
          simp only [Option.toList_some, List.mem_singleton, Prod.mk.injEq] at hm
          obtain ⟨rfl, rfl⟩ := hm
          simp [toCallee])
      refine Calls.mono (hok A.x r hsem w _ (args.map a.eval) hlegit (by simpa using hrep)) ?_
      rintro e w' ⟨cs, L', rfl, hleft, hres, hmr⟩
      dsimp only
      rw [hdst]
      exact hK _ _ _ (hinv w' cs L' hleft hres (by simpa using hmr))
    rcases hmu0 : A.mu with _ | ⟨⟨r0, i⟩, _ | ⟨p2, rest⟩⟩
    · -- nothing is written
      rw [hmu0] at h
      obtain ⟨r, hsem, h⟩ := h
      dsimp only at h
      split at h
      · rename_i v hv
        obtain ⟨rfl, _⟩ := h
        refine fin none (by simpa using hmu0) (by simp) r hsem (fun w' cs L' hleft hres hmr => ?_)
        have hnm : ∀ (j : Nat) (t : Ty) (n : Nat), F.ps[j]? ≠ some (t, Mode.mut n) := by
          intro j t n hj
          obtain ⟨r', hr'⟩ := hmall j t n hj
          rw [hmu0] at hr'
          simp at hr'
        have hTd : (setAll T [(d, v)]).getD d .dead = v := by
          show (T.set d v).getD d .dead = v
          rw [getD_set, if_pos ⟨rfl, by rw [hI.len]; exact hd⟩]
        have hTo : ∀ s, s ≠ d → (setAll T [(d, v)]).getD s .dead = T.getD s .dead := by
          intro s hs
          show (T.set d v).getD s .dead = _
          rw [getD_set, if_neg (fun e => hs e.1)]
        obtain ⟨k1, k2, k3⟩ := resV_rep (T' := setAll T [(d, v)]) (d := d) hI hleft rfl (fun t n => hnm _ t n) (fun r hr => by rw [hTo r (hlsd r hr)]; exact hls r hr) hres hv
        exact Inv.called hI hd hid rfl (fun r i h => by cases h) hleft (by rw [length_setAll, hI.len]) (fun j t n hj => absurd hj (hnm j t n)) (fun r i h => by cases h) (fun s r i h => by cases h) (fun s hs _ => hTo s hs) hTd k1 k2 (fun r i h => by cases h) k3
      · exact h.elim
    · -- one slot is written
      rw [hmu0] at h
      dsimp only at h
      cases hc : (A.ls.contains r0 || !decide (r0 < N)) with
      | true => rw [hc] at h; exact h.elim
      | false =>
        rw [hc] at h
        obtain ⟨log', rfl, h⟩ := h
        obtain ⟨r, hsem, h⟩ := h
        dsimp only at h
        simp only [Bool.or_eq_false_iff, Bool.not_eq_false', decide_eq_true_eq] at hc
        obtain ⟨hc1, hrN⟩ := hc
        have hrls : r0 ∉ A.ls := fun hm => by rw [List.contains_iff_mem.2 hm] at hc1; cases hc1
        split at h
        · rename_i v u' hv hu'
          obtain ⟨Ts, l3, l4, rfl, hall, hdok, hups⟩ := M.runs_bind h
          obtain ⟨rfl, _⟩ := hups
          have hTs : Ts = T := by rw [allM_runs hall (by rw [Nat.zero_add, hI.len])]; rfl
          subst hTs
          obtain ⟨_, t, n, y, h2, h3, h4, h5, h6⟩ := hmu r0 i (by rw [hmu0]; simp)
          simp only [Nat.sub_zero] at h2 h6
          have hil : i < F.ps.length := (List.getElem?_eq_some_iff.1 h2).1
          have hr0d : r0 ≠ d := idle_ne hid (by rw [h5]; simp only [V.owns, Bool.and_eq_true, bne_iff_ne]; omega)
          have hpl : ∀ (j : Nat) (t : Ty) (n : Nat), F.ps[j]? = some (t, Mode.mut n) → j = i := by
            intro j t n hj
            obtain ⟨r', hr'⟩ := hmall j t n hj
            rw [hmu0] at hr'
            simp only [List.mem_singleton, Prod.mk.injEq] at hr'
            omega
          refine fin (some (r0, i)) (by simpa using hmu0) (fun r' i' h => by injection h with h; injection h with h _; subst h; exact hrls) r hsem (fun w' cs L' hleft hres hmr => ?_)
          have hT' : setAll Ts (((r0, u') :: depsU r0 (Ts.getD r0 .dead) (some r0) 0 Ts) ++ [(d, v)]) = (setAll Ts ((r0, u') :: depsU r0 (Ts.getD r0 .dead) (some r0) 0 Ts)).set d v := by
            rw [setAll_append]; rfl
          have hlen1 : (setAll Ts ((r0, u') :: depsU r0 (Ts.getD r0 .dead) (some r0) 0 Ts)).length = N := by rw [length_setAll, hI.len]
          have hTd : (setAll Ts (((r0, u') :: depsU r0 (Ts.getD r0 .dead) (some r0) 0 Ts) ++ [(d, v)])).getD d .dead = v := by
            rw [hT', getD_set, if_pos ⟨rfl, by rw [hlen1]; exact hd⟩]
          have hTo : ∀ s, s ≠ d → (setAll Ts (((r0, u') :: depsU r0 (Ts.getD r0 .dead) (some r0) 0 Ts) ++ [(d, v)])).getD s .dead = (setAll Ts ((r0, u') :: depsU r0 (Ts.getD r0 .dead) (some r0) 0 Ts)).getD s .dead := by
            intro s hs
            rw [hT', getD_set, if_neg (fun e => hs e.1)]
          have hkeys : ∀ s v, (s, v) ∈ ((r0, u') :: depsU r0 (Ts.getD r0 .dead) (some r0) 0 Ts) → (s = r0 ∧ v = u') ∨ (v = .dead ∧ s ≠ r0 ∧ ((Ts.getD s .dead).on r0 && s != r0 && some r0 != some s && !keepable (Ts.getD r0 .dead) (some r0) (Ts.getD s .dead)) = true) := by
            intro s v hm
            rcases List.mem_cons.1 hm with hm | hm
            · injection hm with h1 h2
              exact .inl ⟨h1, h2⟩
            · obtain ⟨h1, _, _, h2⟩ := (depsU_mem s v).1 hm
              simp only [Nat.sub_zero] at h2
              refine .inr ⟨h1, ?_, h2⟩
              rintro rfl
              simp at h2
          have hTr : (setAll Ts ((r0, u') :: depsU r0 (Ts.getD r0 .dead) (some r0) 0 Ts)).getD r0 .dead = u' := by
            refine getD_setAll_mem (by rw [hI.len]; exact hrN) (by simp) (fun v hm => ?_)
            rcases hkeys r0 v hm with ⟨_, h⟩ | ⟨_, h, _⟩
            · exact h
            · exact absurd rfl h
          have hTs2 : ∀ s, s ≠ r0 → (Ts.getD s .dead).on r0 = true → ((setAll Ts ((r0, u') :: depsU r0 (Ts.getD r0 .dead) (some r0) 0 Ts)).getD s .dead = .dead ∧ (Ts.getD s .dead).owns = false) ∨
              ((setAll Ts ((r0, u') :: depsU r0 (Ts.getD r0 .dead) (some r0) 0 Ts)).getD s .dead = Ts.getD s .dead ∧ ∃ t, Ts.getD s .dead = .view r0 [] t) := by
            intro s hs hon
            have hslt : s < N := by
              rcases Nat.lt_or_ge s N with h | h
              · exact h
              · rw [getD_out (by rw [hI.len]; exact h)] at hon; simp [V.on, V.root] at hon
            cases hk : keepable (Ts.getD r0 .dead) (some r0) (Ts.getD s .dead) with
            | true =>
              refine .inr ⟨getD_setAll _ _ _ (fun hm => ?_), ?_⟩
              · obtain ⟨u, hu, he⟩ := List.mem_map.1 hm
                rcases hkeys s u.2 (by rw [← he]; exact hu) with ⟨h, _⟩ | ⟨_, _, h⟩
                · exact hs h
                · rw [hk] at h; simp at h
              · generalize hvv : Ts.getD s .dead = vv at hk hon
                cases vv with
                | view r2 p2 t2 =>
                  have : r2 = r0 := by simpa [V.on, V.root] using hon
                  subst this
                  cases p2 with
                  | nil => exact ⟨t2, rfl⟩
                  | cons _ _ => simp [keepable] at hk
                | ptr _ _ _ =>
                  rw [h5] at hk
                  simp [keepable, V.isD] at hk
                | dead => simp [keepable] at hk
                | tup _ => simp [keepable] at hk
                | d _ _ _ _ => simp [keepable] at hk
                | box _ _ _ _ => simp [keepable] at hk
                | rp _ _ _ => simp [keepable] at hk
                | hole _ _ => simp [keepable] at hk
                | part _ _ _ _ _ => simp [keepable] at hk
            | false =>
              have hc : ((Ts.getD s .dead).on r0 && s != r0 && some r0 != some s && !keepable (Ts.getD r0 .dead) (some r0) (Ts.getD s .dead)) = true := by
                rw [hon, hk]
                simp only [Bool.and_eq_true, bne_iff_ne, Bool.not_false, and_true, true_and]
                exact ⟨hs, fun e => hs (Option.some.inj e).symm⟩
              refine .inl ⟨getD_setAll_mem (by rw [hI.len]; exact hslt) ?_ (fun v hm => ?_), ?_⟩
              · rw [List.mem_map]
                exact ⟨(s, .dead), List.mem_cons_of_mem _ ((depsU_mem s .dead).2 ⟨rfl, Nat.zero_le _, by rw [Nat.zero_add, hI.len]; exact hslt, by simpa using hc⟩), rfl⟩
              · rcases hkeys s v hm with ⟨h, _⟩ | ⟨h, _⟩
                · exact absurd h hs
                · exact h
              · exact depsOk_spec hdok s (by rw [hI.len]; exact hslt) (by simpa using hc)
          have hTn : ∀ s, s ≠ r0 → (Ts.getD s .dead).on r0 = false → (setAll Ts ((r0, u') :: depsU r0 (Ts.getD r0 .dead) (some r0) 0 Ts)).getD s .dead = Ts.getD s .dead := by
            intro s hs hon
            refine getD_setAll _ _ _ (fun hm => ?_)
            obtain ⟨u, hu, he⟩ := List.mem_map.1 hm
            rcases hkeys s u.2 (by rw [← he]; exact hu) with ⟨h, _⟩ | ⟨_, _, h⟩
            · exact hs h
            · rw [hon] at h; simp at h
          have hlsame : ∀ r ∈ A.ls, ((setAll Ts (((r0, u') :: depsU r0 (Ts.getD r0 .dead) (some r0) 0 Ts) ++ [(d, v)])).getD r .dead).deep = true := by
            intro r hr
            have hrr : r ≠ r0 := fun e => hrls (e ▸ hr)
            have ho := V.owns_of_deep (hls r hr)
            rw [hTo r (hlsd r hr)]
            cases hon : (Ts.getD r .dead).on r0 with
            | false => rw [hTn r hrr hon]; exact hls r hr
            | true =>
              rcases hTs2 r hrr hon with ⟨_, h⟩ | ⟨h, _⟩
              · rw [h] at ho; cases ho
              · rw [h]; exact hls r hr
          obtain ⟨j, t', n', y', c', cells, m1, m2, m3, m4, m5⟩ := mutV_rep hmr hu'
          have hji := hpl j t' n' m1
          subst hji
          rw [h2] at m1
          injection m1 with m1
          injection m1 with m1 m1'
          injection m1' with m1'
          subst m1 m1'
          rw [h6] at m3
          injection m3 with m3
          subst m3
          rw [Nat.zero_add] at m5
          obtain ⟨k1, k2, k3⟩ := resV_rep (T' := setAll Ts (((r0, u') :: depsU r0 (Ts.getD r0 .dead) (some r0) 0 Ts) ++ [(d, v)])) (d := d) hI hleft rfl (fun t n hh => by have := hpl _ t n hh; omega) hlsame hres hv
          refine Inv.called hI hd hid rfl (fun r i h => by injection h with h; injection h with _ h; subst h; exact hil) hleft (by rw [length_setAll, hI.len]) (fun j' t n hj => by rw [hpl j' t n hj]; rfl) ?_ ?_ ?_ hTd k1 k2 (fun r i h => by injection h with h; injection h with h _; subst h; exact hrls) k3
          · intro r i h
            injection h with h
            injection h with h h'
            subst h h'
            exact ⟨t, n, y, y', cells, h5, h3, h4, by rw [hTo r0 hr0d, hTr, m2], m4, m5⟩
          · intro s r i h hsd hsr hon
            injection h with h
            injection h with h h'
            subst h h'
            rw [hTo s hsd]
            exact hTs2 s hsr hon
          · intro s hsd hs
            obtain ⟨e1, e2⟩ := hs r0 j rfl
            rw [hTo s hsd]
            exact hTn s e1 e2
        · exact h.elim
    · rw [hmu0] at h
      exact h.elim

end
end Go.Proofs.Ytdfcejijcnhcaaa.C.Am
