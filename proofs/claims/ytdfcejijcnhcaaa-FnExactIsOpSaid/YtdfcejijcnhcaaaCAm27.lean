/- A part of the proof: Am27. No conditions. -/
import Derived.Test.YtdfcejijcnhcaaaCAm26
set_option linter.unusedVariables false
set_option linter.unusedSimpArgs false
namespace Go.Proofs.Ytdfcejijcnhcaaa.C.Am

/-! ## 27. Functions and their contracts -/
inductive Mode where
  | ro
  | mut (n : Nat)

def Mode.dep : Mode → Nat
  | .ro => 0
  | .mut n => n

def pTy : List (Ty × Mode) → Ty
  | [] => .unit
  | p :: l => .pair p.1 (pTy l)

def mTy : List (Ty × Mode) → Ty
  | [] => .unit
  | (t, .mut _) :: l => .pair t (mTy l)
  | (_, .ro) :: l => mTy l

def rTy : List (Ty × Nat) → Ty
  | [] => .unit
  | p :: l => .pair p.1 (rTy l)

/-- A function: what it takes, what it gives (and how much of that is the caller's own), what it computes. -/
structure Fn where
  ps : List (Ty × Mode)
  rs : List (Ty × Nat)
  sem : (pTy ps).den → Option (Ty.pair (rTy rs) (mTy ps)).den

def ArgsRep (w : World) (L0 : Nat → Lab) : Nat → (ps : List (Ty × Mode)) → (pTy ps).den → List Value → Prop
  | _, [], _, cs => cs = []
  | i, (t, m) :: ps, x, cs => ∃ c cs' cells, cs = c :: cs' ∧ Form t cells c ∧ Own w L0 (fun k => L0 k = .stable) i m.dep t x.1 [] 0 cells ∧ ArgsRep w L0 (i + 1) ps x.2 cs'

def MutRep (w : World) (L0 : Nat → Lab) : Nat → (ps : List (Ty × Mode)) → (mTy ps).den → List Value → Prop
  | _, [], _, cs => cs = []
  | i, (t, .mut n) :: ps, x, cs => ∃ c cs' cells, cs = c :: cs' ∧ Form t cells c ∧ Own w L0 (fun k => L0 k = .stable) i n t x.1 [] 0 cells ∧ MutRep w L0 (i + 1) ps x.2 cs'
  | i, (_, .ro) :: ps, x, cs => ∃ c cs', cs = c :: cs' ∧ MutRep w L0 (i + 1) ps x cs'

def ResRep (w : World) (L0 : Nat → Lab) (m : Nat) : Nat → (rs : List (Ty × Nat)) → (rTy rs).den → List Value → Prop
  | _, [], _, cs => cs = []
  | o, (t, n) :: rs, x, cs => ∃ c cs' cells, cs = c :: cs' ∧ Form t cells c ∧ Own w L0 (fun k => L0 k = .stable) m n t x.1 [] o cells ∧ ResRep w L0 m (o + t.sz) rs x.2 cs'

def resVal : List Value → Value
  | [v] => v
  | l => .tuple l.toArray

structure Legit (w : World) (L0 : Nat → Lab) (ps : List (Ty × Mode)) : Prop where
  free : ∀ k, w.heap.size ≤ k → L0 k = .free
  inj : ∀ k k' s q, L0 k = .own s q → L0 k' = .own s q → k = k'
  owner : ∀ k s q, L0 k = .own s q → ∃ t n, ps[s]? = some (t, .mut n) ∧ n ≠ 0 ∧ t.depth ≠ 0

structure Left (w w' : World) (L0 L' : Nat → Lab) (ps : List (Ty × Mode)) (rs : List (Ty × Nat)) : Prop where
  os : w'.os = w.os
  tape : w'.tape = w.tape
  output : w'.output = w.output
  size : w.heap.size ≤ w'.heap.size
  keep : ∀ k, k < w.heap.size → (L0 k = .stable ∨ L0 k = .other) → L' k = L0 k ∧ w'.heap[k]? = w.heap[k]?
  free : ∀ k, w'.heap.size ≤ k → L' k = .free
  inj : ∀ k k' s q, L' k = .own s q → L' k' = .own s q → k = k'
  owner : ∀ k s q, L' k = .own s q → (s = ps.length ∧ ∃ t n, (t, n) ∈ rs ∧ n ≠ 0 ∧ t.depth ≠ 0) ∨ ∃ t n, ps[s]? = some (t, .mut n)

def FnOk (P : Program) (f : FuncId) (F : Fn) : Prop :=
  (∃ fn, P.funcs[f]? = some fn ∧ (fn.name == "runtime.NumGoroutine") = false ∧ fn.body.isNone = false) ∧
  ∀ x r, F.sem x = some r → ∀ (w : World) (L0 : Nat → Lab) (args : Array Value), Legit w L0 F.ps → ArgsRep w L0 0 F.ps x args.toList →
    Calls P f args w (fun e w' => ∃ cs L', e = .returned (resVal cs) ∧ Left w w' L0 L' F.ps F.rs ∧ ResRep w' L' F.ps.length 0 F.rs r.1 cs ∧ MutRep w' L' 0 F.ps r.2 args.toList)

/-! ### a call, from the caller's side -/
/-- An argument that is read. -/
def argM (C : Ctx) (t : Ty) (x : Operand) : M (t.den × List Nat) :=
  match x with
  | .tmp s => .get s fun v => (readD s v).bind fun z => if h : z.2.1 = t then .ret (h ▸ z.2.2, if t.depth = 0 then [] else z.1.toList) else .fail
  | .const c => (constM C 0 c).bind fun v => match v with
    | .d none _ t' y => if h : t' = t then .ret (h ▸ y, []) else .fail
    | _ => .fail
  | _ => .fail

/-- An argument that is written: the slot that owns it. -/
def mutM (t : Ty) (n : Nat) (x : Operand) : M (t.den × Nat) :=
  match x with
  | .tmp s => .get s fun v => match v with
    | .view r [] _ => .get r fun u => match u with
      | .d none n' t' y => if h : t' = t then (if n' = n ∧ t.depth ≤ n ∧ t.depth ≠ 0 then .ret (h ▸ y, r) else .fail) else .fail
      | _ => .fail
    | .d none n' t' y => if h : t' = t then (if n' = n ∧ t.depth ≤ n ∧ t.depth ≠ 0 then .ret (h ▸ y, s) else .fail) else .fail
    | _ => .fail
  | _ => .fail

/-- All arguments: data, lenders, (owner, which parameter). -/
structure Args (ps : List (Ty × Mode)) where
  x : (pTy ps).den
  ls : List Nat
  mu : List (Nat × Nat)

def argsM (C : Ctx) : Nat → (ps : List (Ty × Mode)) → List Operand → M (Args ps)
  | _, [], [] => .ret ⟨(), [], []⟩
  | i, (t, .ro) :: ps, x :: xs => (argM C t x).bind fun y => (argsM C (i + 1) ps xs).bind fun r => .ret ⟨(y.1, r.x), y.2 ++ r.ls, r.mu⟩
  | i, (t, .mut n) :: ps, x :: xs => (mutM t n x).bind fun y => (argsM C (i + 1) ps xs).bind fun r => .ret ⟨(y.1, r.x), r.ls, (y.2, i) :: r.mu⟩
  | _, _, _ => .fail

section
variable {P : Program} {C : Ctx} {w w' w0 : World} {S S' : Nat → Prop} {L L' L0 : Nat → Lab} {s N : Nat} {vs : List Nat} {T T' : List V} {tm tm' : Array Value} {a : Act}

/-- What is owned to the ground reads nothing else. -/
theorem Own.full : {n : Nat} → {t : Ty} → {x : t.den} → {q : List Nat} → {o : Nat} → {cs : List Value} → t.depth ≤ n → Own w L S s n t x q o cs → Own w L S' s n t x q o cs
  | _, .int _, _, _, _, _, _, h => by simpa only [Own] using h
  | _, .bool, _, _, _, _, _, h => by simpa only [Own] using h
  | _, .str, _, _, _, _, _, h => by simpa only [Own] using h
  | _, .raw _, _, _, _, _, _, h => by simpa only [Own] using h
  | _, .unit, _, _, _, _, _, h => by simpa only [Own] using h
  | _, .pair a b, _, _, _, _, hd, h => by
    simp only [Own, Ty.depth] at h hd ⊢
    obtain ⟨c0, c1, rfl, h0, h1⟩ := h
    exact ⟨c0, c1, rfl, Own.full (by omega) h0, Own.full (by omega) h1⟩
  | _, .agg t, _, _, _, _, hd, h => by simp only [Own, Ty.depth] at h hd ⊢; exact Own.full (t := t) hd h
  | 0, .slice _ _, _, _, _, _, hd, h => by simp [Ty.depth] at hd
  | n + 1, .slice e t, xs, _, _, _, hd, h => by
    simp only [Own, Ty.depth] at h hd ⊢
    rcases h with h | ⟨g, cap, cur, h1, h2, h3, h4, h5, h6, h7⟩
    · exact .inl h
    · exact .inr ⟨g, cap, cur, h1, h2, h3, h4, h5, h6, fun j hj => Own.full (by omega) (h7 j hj)⟩

/-- How the caller's blocks are labelled for the callee. -/
def toCallee (mu : Option (Nat × Nat)) (ls : List Nat) : Lab → Lab
  | .own s q => match mu with
    | some (r, i) => if s = r then .own i q else if ls.contains s then .stable else .other
    | none => if ls.contains s then .stable else .other
  | x => x

/-- And back: m is the slot of the results. -/
def fromCallee (mu : Option (Nat × Nat)) (m d : Nat) : Lab → Lab
  | .own i q => if i = m then .own d q else match mu with
    | some (r, _) => .own r q
    | none => .other
  | x => x

def backLab (mu : Option (Nat × Nat)) (m d : Nat) (L L' : Nat → Lab) : Nat → Lab := fun k => match L k with
  | .free => fromCallee mu m d (L' k)
  | .own s q => if mu.map (·.1) = some s then fromCallee mu m d (L' k) else .own s q
  | x => x

theorem toCallee_own {mu : Option (Nat × Nat)} {ls : List Nat} {l : Lab} {i : Nat} {q : List Nat} (h : toCallee mu ls l = .own i q) : ∃ r, mu = some (r, i) ∧ l = .own r q := by
  cases l with
  | own s q' =>
    unfold toCallee at h
    cases mu with
    | none => dsimp only at h; split at h <;> cases h
    | some p =>
      obtain ⟨r, i'⟩ := p
      dsimp only at h
      split at h
      · rename_i hs
        injection h with h1 h2
        exact ⟨r, by rw [h1], by rw [hs, h2]⟩
      · split at h <;> cases h
  | stable => cases h
  | free => cases h
  | other => cases h

theorem argM_rep (hI : Inv w0 L0 N vs T a w L) {t : Ty} {x : Operand} {y : t.den} {ls : List Nat} {log : List Nat} (h : (argM C t x).Runs T (y, ls) log) :
    ∃ cells, Form t cells (a.eval x) ∧ (∀ r ∈ ls, (T.getD r .dead).deep = true) ∧ ∀ (S : Nat → Prop), (∀ k, L k = .stable → S k) → (∀ k r q, r ∈ ls → L k = .own r q → S k) → Rd w S t y cells := by
  unfold argM at h
  split at h
  · rename_i s
    obtain ⟨log', rfl, h⟩ := h
    obtain ⟨⟨l, t', y'⟩, l1, l2, rfl, h1, h2⟩ := M.runs_bind h
    dsimp only at h2
    split at h2
    · rename_i ht
      subst ht
      obtain ⟨h2, _⟩ := h2
      injection h2 with h2 h3
      subst h2 h3
      obtain ⟨cells, hf, hrd, hdp⟩ := readD_rd hI h1 (hI.slots s) (fun _ => rfl)
      refine ⟨cells, hf, fun r hr => ?_, fun S H1 H2 => ?_⟩
      · split at hr
        · simp at hr
        · exact hdp r (by simpa using hr)
      · by_cases hd : t'.depth = 0
        · have := Own.of_rd (L := L) (s := 0) (q := []) (o := 0) hrd
          exact Own.rd0 (Own.flat (L' := L) (S' := S) (s' := 0) (q' := []) (o' := 0) (n' := 0) hd this)
        · rw [if_neg hd] at H2
          refine Rd.move (fun k hk => ⟨?_, rfl⟩) hrd
          rcases hk with hk | ⟨r, q, hl, hk⟩
          · exact H1 k hk
          · exact H2 k r q (by simp [hl]) hk
    · exact h2.elim
  · rename_i c
    obtain ⟨v, l1, l2, rfl, h1, h2⟩ := M.runs_bind h
    split at h2
    · rename_i n t' y'
      split at h2
      · rename_i ht
        subst ht
        obtain ⟨h2, _⟩ := h2
        injection h2 with h2 h3
        subst h2 h3
        obtain ⟨⟨_, cells, hf, ho⟩, _⟩ := constM_rep (L := fun _ => .free) (T := T) (tm := a.tmps) (s := 0) (w := w) h1
        refine ⟨cells, hf, by simp, fun S _ _ => ?_⟩
        exact Own.rd0 (Own.moveLow (L' := L) (S' := S) (s' := 0) (q2 := []) (o2 := 0) (Nat.zero_le _) (fun k hk => absurd hk SL_free) (fun k d rest _ hk => by cases hk) ho)
      · exact h2.elim
    · exact h2.elim
  · exact h.elim

theorem mutM_rep (hI : Inv w0 L0 N vs T a w L) {t : Ty} {n : Nat} {x : Operand} {y : t.den} {r : Nat} {log : List Nat} (h : (mutM t n x).Runs T (y, r) log) :
    T.getD r .dead = .d none n t y ∧ t.depth ≤ n ∧ t.depth ≠ 0 ∧ a.eval x = a.tmps.getD r undef := by
  unfold mutM at h
  split at h
  · rename_i s
    obtain ⟨log', rfl, h⟩ := h
    have hs := hI.slots s
    generalize hv : T.getD s .dead = v at h hs
    dsimp only at h
    split at h
    · rename_i r' t2
      obtain ⟨log2, rfl, h⟩ := h
      dsimp only at h
      split at h
      · rename_i n' t' y' hu
        split at h
        · rename_i ht
          subst ht
          split at h
          · rename_i hc
            obtain ⟨rfl, hn, hd⟩ := hc
            obtain ⟨h, _⟩ := h
            injection h with h1 h2
            subst h1 h2
            refine ⟨hu, hn, hd, ?_⟩
            obtain ⟨_, h1⟩ := hs
            rcases h1 with ⟨_, h2, _⟩ | ⟨_, _, _, h2, _⟩
            · exact h2
            · rw [hu] at h2; simp [V.isD] at h2
          · exact h.elim
        · exact h.elim
      · exact h.elim
    · rename_i n' t' y'
      split at h
      · rename_i ht
        subst ht
        split at h
        · rename_i hc
          obtain ⟨rfl, hn, hd⟩ := hc
          obtain ⟨h, _⟩ := h
          injection h with h1 h2
          subst h1 h2
          exact ⟨hv, hn, hd, rfl⟩
        · exact h.elim
      · exact h.elim
    · exact h.elim
  · exact h.elim

theorem argsM_rep (hI : Inv w0 L0 N vs T a w L) : {ps : List (Ty × Mode)} → {i : Nat} → {xs : List Operand} → {A : Args ps} → {log : List Nat} → (argsM C i ps xs).Runs T A log →
    (∀ r ∈ A.ls, (T.getD r .dead).deep = true) ∧ (∀ r j, (r, j) ∈ A.mu → i ≤ j ∧ ∃ t n y, ps[j - i]? = some (t, .mut n) ∧ t.depth ≤ n ∧ t.depth ≠ 0 ∧ T.getD r .dead = .d none n t y ∧ (xs.map a.eval)[j - i]? = some (a.tmps.getD r undef)) ∧
    (∀ j t n, ps[j]? = some (t, .mut n) → ∃ r, (r, i + j) ∈ A.mu) ∧
    ∀ L1 : Nat → Lab, (∀ k, L k = .stable → L1 k = .stable) → (∀ k r q, r ∈ A.ls → L k = .own r q → L1 k = .stable) → (∀ k r j q, (r, j) ∈ A.mu → L k = .own r q → L1 k = .own j q) → ArgsRep w L1 i ps A.x (xs.map a.eval)
  | [], i, [], A, log, h => by
    obtain ⟨rfl, _⟩ := h
    exact ⟨by simp, by simp, by simp, fun _ _ _ _ => rfl⟩
  | (t, .ro) :: ps, i, x :: xs, A, log, h => by
    simp only [argsM] at h
    obtain ⟨⟨y, ls⟩, l1, l2, rfl, h1, h⟩ := M.runs_bind h
    obtain ⟨A', l3, l4, rfl, h2, h⟩ := M.runs_bind h
    obtain ⟨rfl, _⟩ := h
    obtain ⟨cells, k1, k2, k3⟩ := argM_rep hI h1
    obtain ⟨j1, j2, j4, j3⟩ := argsM_rep hI h2
    refine ⟨fun r hr => ?_, fun r j hm => ?_, fun j t' n hj => ?_, fun L1 H1 H2 H3 => ?_⟩
    · rcases List.mem_append.1 hr with hr | hr
      · exact k2 r hr
      · exact j1 r hr
    · obtain ⟨hi, t', n', y', e1, e2, e3, e4, e5⟩ := j2 r j hm
      have : j - i = (j - (i + 1)) + 1 := by omega
      refine ⟨by omega, t', n', y', by rw [this]; simpa using e1, e2, e3, e4, by rw [this]; simpa using e5⟩
    · cases j with
      | zero => simp at hj
      | succ j =>
        obtain ⟨r, hr⟩ := j4 j t' n (by simpa using hj)
        exact ⟨r, by rw [show i + (j + 1) = i + 1 + j by omega]; exact hr⟩
    · exact ⟨a.eval x, _, cells, rfl, k1, Own.of_rd (k3 _ H1 (fun k r q hr hk => H2 k r q (List.mem_append_left _ hr) hk)), j3 L1 H1 (fun k r q hr hk => H2 k r q (List.mem_append_right _ hr) hk) H3⟩
  | (t, .mut n) :: ps, i, x :: xs, A, log, h => by
    simp only [argsM] at h
    obtain ⟨⟨y, r0⟩, l1, l2, rfl, h1, h⟩ := M.runs_bind h
    obtain ⟨A', l3, l4, rfl, h2, h⟩ := M.runs_bind h
    obtain ⟨rfl, _⟩ := h
    obtain ⟨k1, k2, k3, k4⟩ := mutM_rep hI h1
    obtain ⟨j1, j2, j4, j3⟩ := argsM_rep hI h2
    refine ⟨j1, fun r j hm => ?_, fun j t' n' hj => ?_, fun L1 H1 H2 H3 => ?_⟩
    · rcases List.mem_cons.1 hm with hm | hm
      · injection hm with e1 e2
        subst e1 e2
        exact ⟨Nat.le_refl _, t, n, y, by simp, k2, k3, k1, by simp [k4]⟩
      · obtain ⟨hi, t', n', y', e1, e2, e3, e4, e5⟩ := j2 r j hm
        have : j - i = (j - (i + 1)) + 1 := by omega
        refine ⟨by omega, t', n', y', by rw [this]; simpa using e1, e2, e3, e4, by rw [this]; simpa using e5⟩
    · cases j with
      | zero => exact ⟨r0, by simp⟩
      | succ j =>
        obtain ⟨r, hr⟩ := j4 j t' n' (by simpa using hj)
        exact ⟨r, by rw [show i + (j + 1) = i + 1 + j by omega]; exact List.mem_cons_of_mem _ hr⟩
    · have hs := hI.slots r0
      rw [k1] at hs
      obtain ⟨_, cells, hf, ho⟩ := hs
      refine ⟨a.eval x, _, cells, rfl, by rw [k4]; exact hf, ?_, j3 L1 H1 H2 (fun k r j q hm hk => H3 k r j q (List.mem_cons_of_mem _ hm) hk)⟩
      refine Own.move (fun k hk => ⟨?_, rfl⟩) (fun k d rest _ hk => ⟨H3 k r0 i _ (by simp) hk, rfl⟩) ho
      rcases hk with hk | ⟨_, _, hk, _⟩
      · exact H1 k hk
      · cases hk
  | [], _, _ :: _, _, _, h => h.elim
  | (_, .ro) :: _, _, [], _, _, h => h.elim
  | (_, .mut _) :: _, _, [], _, _, h => h.elim

end
end Go.Proofs.Ytdfcejijcnhcaaa.C.Am
