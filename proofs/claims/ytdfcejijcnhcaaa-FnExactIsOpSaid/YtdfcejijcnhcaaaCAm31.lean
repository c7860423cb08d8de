/- A part of the proof: Am31. No conditions. -/
import Derived.Test.YtdfcejijcnhcaaaCAm30
set_option linter.unusedVariables false
set_option linter.unusedSimpArgs false
namespace Go.Proofs.Ytdfcejijcnhcaaa.C.Am

/-! ## 31. A function's contract -/
def initT : (ps : List (Ty × Mode)) → (pTy ps).den → List V
  | [], _ => []
  | (t, m) :: ps, x => .d none m.dep t x.1 :: initT ps x.2

def slots0 (N : Nat) (ps : List (Ty × Mode)) (x : (pTy ps).den) : List V := initT ps x ++ List.replicate (N - ps.length) .dead

def mkEnv (C : Ctx) (tab : Tab) (vs : List Nat) (N : Nat) (keep : Nat → Option Nat) (hx : Hints) (ps : List (Ty × Mode)) : Env :=
  { step := stepM C tab vs hx N, N := N, pins := fun p => (muts 0 ps).contains p, keep := keep }

def endK (C : Ctx) (ps : List (Ty × Mode)) (rs : List (Ty × Nat)) (sl : List RV) : Ex → List V → Option (Ty.pair (rTy rs) (mTy ps)).den
  | .ext _, _ => none
  | _, T => (finM C ps rs sl).runK T [] fun _ r => some r

noncomputable def mkFn (C : Ctx) (tab : Tab) (vs : List Nat) (N : Nat) (keep : Nat → Option Nat) (hx : Hints) (ps : List (Ty × Mode)) (rs : List (Ty × Nat)) (sl : List RV) (c : Code) : Fn :=
  { ps := ps, rs := rs, sem := fun x => denK (mkEnv C tab vs N keep hx ps) c (endK C ps rs sl) (slots0 N ps x) }

section
variable {P : Program} {C : Ctx} {w w' w0 : World} {L L' L0 : Nat → Lab} {N : Nat} {vs : List Nat} {T T' : List V} {a : Act}

theorem ArgsRep.len : {ps : List (Ty × Mode)} → {i : Nat} → {x : (pTy ps).den} → {cs : List Value} → ArgsRep w L0 i ps x cs → cs.length = ps.length
  | [], _, _, _, h => by simp only [ArgsRep] at h; subst h; rfl
  | (t, m) :: ps, i, x, cs, h => by
    simp only [ArgsRep] at h
    obtain ⟨c, cs', cells, rfl, _, _, h⟩ := h
    simp [ArgsRep.len h]

theorem ArgsRep.get : {ps : List (Ty × Mode)} → {i : Nat} → {x : (pTy ps).den} → {cs : List Value} → ArgsRep w L0 i ps x cs → ∀ (s : Nat) (t : Ty) (m : Mode), ps[s]? = some (t, m) →
    ∃ y c cells, (initT ps x)[s]? = some (.d none m.dep t y) ∧ cs[s]? = some c ∧ Form t cells c ∧ Own w L0 (fun k => L0 k = .stable) (i + s) m.dep t y [] 0 cells
  | [], _, _, _, _, s, t, m, h => by simp at h
  | (t0, m0) :: ps, i, x, cs, h, s, t, m, hs => by
    simp only [ArgsRep] at h
    obtain ⟨c, cs', cells, rfl, h1, h2, h⟩ := h
    cases s with
    | zero =>
      simp only [List.getElem?_cons_zero, Option.some.injEq, Prod.mk.injEq] at hs
      obtain ⟨rfl, rfl⟩ := hs
      exact ⟨x.1, c, cells, rfl, rfl, h1, h2⟩
    | succ s =>
      obtain ⟨y, c', cells', e1, e2, e3, e4⟩ := ArgsRep.get h s t m (by simpa using hs)
      exact ⟨y, c', cells', by simpa [initT] using e1, by simpa using e2, e3, by rw [show i + (s + 1) = i + 1 + s by omega]; exact e4⟩

theorem initT_length : {ps : List (Ty × Mode)} → {x : (pTy ps).den} → (initT ps x).length = ps.length
  | [], _ => rfl
  | (t, m) :: ps, x => by simp [initT, initT_length]

theorem slots0_get {ps : List (Ty × Mode)} {x : (pTy ps).den} (s : Nat) : (slots0 N ps x).getD s .dead = ((initT ps x)[s]?).getD .dead := by
  unfold slots0
  rw [List.getD_eq_getElem?_getD]
  by_cases h : s < ps.length
  · rw [List.getElem?_append_left (by rw [initT_length]; exact h)]
  · rw [List.getElem?_append_right (by rw [initT_length]; omega), List.getElem?_eq_none (l := initT ps x) (by rw [initT_length]; omega)]
    rw [List.getElem?_replicate]
    split <;> rfl

theorem start_inv {ps : List (Ty × Mode)} {x : (pTy ps).den} {args : Array Value} (hl : Legit w L0 ps) (ha : ArgsRep w L0 0 ps x args.toList) (hN : ps.length ≤ N) (vs : List Nat) :
    Inv w L0 N vs (slots0 N ps x) { tmps := args ++ Array.replicate (N - args.size) undef, defers := [] } w L0 := by
  have hlen : args.size = ps.length := by simpa using ha.len
  refine ⟨by simp; omega, by simp [slots0, initT_length]; omega, rfl, ⟨rfl, rfl, rfl, Nat.le_refl _, fun _ _ _ => ⟨rfl, rfl⟩⟩, hl.free, hl.inj, fun k s q h => ?_, fun s r h => ?_, fun s => ?_⟩
  · obtain ⟨t, n, h1, h2, h3⟩ := hl.owner k s q h
    obtain ⟨y, c, cells, e1, _⟩ := ha.get s t _ h1
    rw [slots0_get, e1]
    simp [V.owns, Mode.dep, h2, h3]
  · rw [slots0_get] at h
    cases hp : ps[s]? with
    | none =>
      rw [List.getElem?_eq_none (by rw [initT_length]; exact List.getElem?_eq_none_iff.1 hp)] at h
      simp [V.on, V.root] at h
    | some p =>
      obtain ⟨t, m⟩ := p
      obtain ⟨y, c, cells, e1, _⟩ := ha.get s t m hp
      rw [e1] at h
      simp [V.on, V.root] at h
  · rw [slots0_get]
    cases hp : ps[s]? with
    | none =>
      rw [List.getElem?_eq_none (by rw [initT_length]; exact List.getElem?_eq_none_iff.1 hp)]
      trivial
    | some p =>
      obtain ⟨t, m⟩ := p
      obtain ⟨y, c, cells, e1, e2, e3, e4⟩ := ha.get s t m hp
      rw [e1]
      have hs : s < args.size := by rw [hlen]; exact (List.getElem?_eq_some_iff.1 hp).1
      have hc : (args ++ Array.replicate (N - args.size) undef).getD s undef = c := by
        rw [Array.getD_eq_getD_getElem?, Array.getElem?_append_left hs]
        rw [Array.getElem?_toList] at e2
        rw [e2]; rfl
      refine ⟨by simp, cells, by rw [hc]; exact e3, ?_⟩
      rw [Nat.zero_add] at e4
      exact Own.move (fun k hk => ⟨.inl hk, rfl⟩) (fun k d rest _ hk => ⟨hk, rfl⟩) e4

theorem finLab_own {m : Nat} {mu : List Nat} {ss : List Src} {l : Lab} {s' : Nat} {q' : List Nat} (h : finLab m mu ss l = .own s' q') :
    ∃ s q, l = .own s q ∧ ((s ∈ mu ∧ s' = s ∧ q' = q) ∨ ∃ p y rest, ss.find? (fun p => p.s == s) = some p ∧ q = y :: rest ∧ y < p.sz ∧ s' = m ∧ q' = (p.o + y) :: rest) := by
  cases l with
  | own s q =>
    unfold finLab at h
    dsimp only at h
    split at h
    · rename_i hm
      injection h with h1 h2
      exact ⟨s, q, rfl, .inl ⟨by simpa using hm, h1.symm, h2.symm⟩⟩
    · split at h
      · rename_i p hp
        split at h
        · split at h
          · split at h
            · injection h with h1 h2
              exact ⟨s, _, rfl, .inr ⟨p, _, _, hp, rfl, by assumption, h1.symm, h2.symm⟩⟩
            · cases h
          · cases h
        · cases h
      · cases h
  | stable => cases h
  | free => cases h
  | other => cases h

/-- What the end of a body says. -/
theorem fin_ok (hI : Inv w0 L0 N vs T a w L) (hC : CtxOk P C) {ps : List (Ty × Mode)} {rs : List (Ty × Nat)} {sl : List RV} {r : (Ty.pair (rTy rs) (mTy ps)).den} {log : List Nat} {A0 : List Value} (h : (finM C ps rs sl).Runs T r log)
    (hl : ps.length = A0.length) (hA : ∀ j, (∃ t n, ps[j]? = some (t, .mut n)) → A0[j]? = some (a.tmps.getD j undef)) :
    ∃ L' cs, FinVals P w a sl cs ∧ Left w0 w L0 L' ps rs ∧ ResRep w L' ps.length 0 rs r.1 cs ∧ MutRep w L' 0 ps r.2 A0 := by
  obtain ⟨R, l1, l2, rfl, h1, h⟩ := M.runs_bind h
  obtain ⟨m, l3, l4, rfl, h2, hc, rfl, _⟩ := M.runs_bind h
  simp only [Bool.and_eq_true, List.all_eq_true, Bool.not_eq_true'] at hc
  obtain ⟨⟨hnd, hls⟩, hmu⟩ := hc
  have nmem : ∀ {x : Nat} {l : List Nat}, l.contains x = false → x ∉ l := fun h hm => by rw [List.contains_iff_mem.2 hm] at h; cases h
  obtain ⟨cs, k0, k1, k2, k3⟩ := resM_rep hI hC h1
  have hsrc : ∀ p ∈ R.ss, p.s ∉ muts 0 ps := fun p hp hm => nmem (hmu p.s hm) (List.mem_map_of_mem hp)
  refine ⟨fun k => finLab ps.length (muts 0 ps) R.ss (L k), cs, k0, ⟨hI.fr.os, hI.fr.tape, hI.fr.output, hI.fr.size, fun k hk h0 => ?_, fun k hk => by rw [hI.free k hk]; rfl, fun k k' s q e e' => ?_, fun k s q e => ?_⟩,
    k3 _ _ (fun k hk => by rw [hk]; rfl) (fun k r q hr hk => ?_) (fun p k i rest hp hk hi => ?_), outM_rep hI h2 hl (fun j hj => by rw [Nat.zero_add]; exact hA j hj) _ (fun k hk => by rw [hk]; rfl) (fun k s q hm hk => ?_)⟩
  · have := hI.fr.keep k hk h0
    refine ⟨?_, this.2⟩
    rw [this.1]
    rcases h0 with h0 | h0 <;> rw [h0] <;> rfl
  · obtain ⟨s1, q1, e1, e2⟩ := finLab_own e
    obtain ⟨s2, q2, e3, e4⟩ := finLab_own e'
    have hlt : ∀ s, s ∈ muts 0 ps → s < ps.length := fun s hs => by
      obtain ⟨_, t, n, h⟩ := muts_mem.1 hs
      exact (List.getElem?_eq_some_iff.1 (by simpa using h)).1
    rcases e2 with ⟨h1, rfl, rfl⟩ | ⟨p, y, rest, h1, rfl, h3, rfl, rfl⟩
    · rcases e4 with ⟨h2, rfl, rfl⟩ | ⟨p, y, rest, h2, rfl, h3, rfl, _⟩
      · exact hI.inj k k' _ _ e1 e3
      · exact absurd (hlt _ h1) (Nat.lt_irrefl _)
    · rcases e4 with ⟨h2, rfl, rfl⟩ | ⟨p', y', rest', h2, rfl, h4, _, h5⟩
      · exact absurd (hlt _ h2) (Nat.lt_irrefl _)
      · injection h5 with h5 h6
        subst h6
        have m1 := List.mem_of_find?_eq_some h1
        have m2 := List.mem_of_find?_eq_some h2
        have n1 : p.s = s1 := by simpa using List.find?_some h1
        have n2 : p'.s = s2 := by simpa using List.find?_some h2
        by_cases hs : s1 = s2
        · subst hs
          rw [h1] at h2
          injection h2 with h2
          subst h2
          have : y = y' := by omega
          subst this
          exact hI.inj k k' _ _ e1 e3
        · have := k2 p p' m1 m2 (by rw [n1, n2]; exact hs)
          omega
  · obtain ⟨s1, q1, e1, e2⟩ := finLab_own e
    rcases e2 with ⟨h1, rfl, rfl⟩ | ⟨p, y, rest, h1, rfl, h3, rfl, rfl⟩
    · obtain ⟨_, t, n, h⟩ := muts_mem.1 h1
      exact .inr ⟨t, n, by simpa using h⟩
    · obtain ⟨_, t, h2, h3, h4⟩ := k1 p (List.mem_of_find?_eq_some h1)
      exact .inl ⟨rfl, t, p.n, h2, h3, h4⟩
  · rw [hk]
    have := hls r hr
    exact finLab_lend (nmem this.2) (nmem this.1)
  · rw [hk, finLab_src hnd (hsrc p hp) hp hi]
    exact ⟨fun h => by rw [if_pos h], fun h => by rw [if_neg (by omega)]⟩
  · rw [hk]
    unfold finLab
    dsimp only
    rw [if_pos (by simpa using hm)]

theorem run_results {fn : Func} {sl : List RV} {cs : List Value} (hr : fn.results.toList = sl.map RV.var) (hf : FinVals P w a sl cs) : (results fn a.tmps).run P w = .ok (resVal cs) w := by
  have hm : ∀ g : ResultVar → Sem Value, (∀ t, g (.tmp t) = pure (a.tmps.getD t undef)) → (∀ s X, g (.cell s X) = (do loadVar X (← asAddr (a.tmps.getD s undef)))) → (fn.results.mapM g).run P w = .ok cs.toArray w := by
    intro g hg1 hg2
    rw [Array.mapM_eq_mapM_toList, hr]
    have : ∀ (sl : List RV) (cs : List Value), FinVals P w a sl cs → ((sl.map RV.var).mapM g).run P w = .ok cs w := by
      intro sl
      induction sl with
      | nil => intro cs h; obtain rfl : cs = [] := h; simp
      | cons s sl ih =>
        intro cs h
        obtain ⟨c, cs', rfl, h1, h2⟩ := h
        have hrun : (g s.var).run P w = .ok c w := by
          cases s with
          | tmp t =>
            obtain rfl : c = _ := h1
            show (g (.tmp t)).run P w = _
            rw [hg1]; rfl
          | cell t X =>
            obtain ⟨A, h3, h4⟩ := h1
            show (g (.cell t X)).run P w = _
            rw [hg2, h3]
            simp [asAddr, h4]
        simp only [List.map_cons, List.mapM_cons, Sem.run_bind, hrun, Result.andThen_ok, ih cs' h2, Sem.run_pure]
    have h2 := this sl cs hf
    simp only [Sem.run_map, h2, Result.andThen_ok]
  unfold results
  rw [Sem.run_bind, hm _ (fun t => rfl) (fun s X => rfl), Result.andThen_ok, Sem.run_pure]
  match cs with
  | [] => rfl
  | [s] => rfl
  | s :: s' :: l => rfl

theorem mkFn_ok {tab : Tab} {keep : Nat → Option Nat} {hx : Hints} {ps : List (Ty × Mode)} {rs : List (Ty × Nat)} {sl : List RV} {c : Code} {f : FuncId} {fn : Func} (hmix : P.follows .mixedOrders = true) (hC : CtxOk P C) (htab : TabOk P tab)
    (hf : P.funcs[f]? = some fn) (hname : (fn.name == "runtime.NumGoroutine") = false) (hb : fn.body = some c) (hN : fn.ntmps = N) (hr : fn.results.toList = sl.map RV.var) (hps : ps.length ≤ N) :
    FnOk P f (mkFn C tab vs N keep hx ps rs sl c) := by
  refine ⟨⟨fn, hf, hname, by rw [hb]; rfl⟩, fun x r hsem w L0 args hl ha => ?_⟩
  change Legit w L0 ps at hl
  change ArgsRep w L0 0 ps x args.toList at ha
  have hlen : args.size = ps.length := by have := ha.len; rw [← this]; simp
  refine calls_of_wp hf hb ?_
  rw [hN]
  have hst : StepOk P w L0 vs (mkEnv C tab vs N keep hx ps) := stepM_ok hmix hC htab rfl
  let A0 : Array Value := args ++ Array.replicate (N - args.size) undef
  have hJ : J w L0 vs (mkEnv C tab vs N keep hx ps) A0 (slots0 N ps x) { tmps := args ++ Array.replicate (N - args.size) undef, defers := [] } w := ⟨⟨L0, start_inv hl ha hps vs⟩, fun _ _ => rfl⟩
  refine wp_mono (denK_sound (A0 := A0) hst hsem _ _ hJ) ?_
  rintro e a' w' ⟨ex, T', rfl, hk, ⟨L, hI⟩, hpin⟩
  have hfin : ∀ {log : List Nat}, (finM C ps rs sl).Runs T' r log → a'.defers = [] ∧ ∃ v, (results fn a'.tmps).run P w' = .ok v w' ∧ ∃ cs L', Ending.returned v = .returned (resVal cs) ∧ Left w w' L0 L' ps rs ∧ ResRep w' L' ps.length 0 rs r.1 cs ∧ MutRep w' L' 0 ps r.2 args.toList := by
    intro log hrun
    obtain ⟨L', cs, h0, h1, h2, h3⟩ := fin_ok hI hC hrun (A0 := args.toList) (by simpa using hlen.symm) (fun j hj => by
      have hm : (mkEnv C tab vs N keep hx ps).pins j = true := by
        show (muts 0 ps).contains j = true
        rw [List.contains_iff_mem]
        exact muts_mem.2 ⟨Nat.zero_le _, by simpa using hj⟩
      obtain ⟨t, n, hj⟩ := hj
      have hlt : j < args.size := by rw [hlen]; exact (List.getElem?_eq_some_iff.1 hj).1
      rw [hpin j hm]
      show _ = some ((args ++ Array.replicate (N - args.size) undef).getD j undef)
      rw [Array.getD_eq_getD_getElem?, Array.getElem?_append_left hlt]
      simp [hlt])
    exact ⟨hI.dfr, _, run_results hr h0, _, L', rfl, h1, h2, h3⟩
  cases ex with
  | ext i => cases hk
  | nrm =>
    obtain ⟨r', log, h1, h2⟩ := M.runK_some hk
    injection h2 with h2
    subst h2
    exact hfin h1
  | ret =>
    obtain ⟨r', log, h1, h2⟩ := M.runK_some hk
    injection h2 with h2
    subst h2
    exact hfin h1

end
end Go.Proofs.Ytdfcejijcnhcaaa.C.Am
