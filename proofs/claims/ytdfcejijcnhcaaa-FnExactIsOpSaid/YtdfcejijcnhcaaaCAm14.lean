/- A part of the proof: Am14. No conditions. -/
import Derived.Test.YtdfcejijcnhcaaaCAm13
set_option linter.unusedVariables false
set_option linter.unusedSimpArgs false
namespace Go.Proofs.Ytdfcejijcnhcaaa.C.Am

/-! ## 14. Labels anew -/
def relab (f : Nat → List Nat → Lab) : Lab → Lab
  | .own s q => f s q
  | x => x

/-- The blocks that stood are labelled by f; the new ones by nl. -/
def newLab (f : Nat → List Nat → Lab) (w : World) (L nl : Nat → Lab) : Nat → Lab := fun k => if k < w.heap.size then relab f (L k) else nl k

section
variable {P : Program} {C : Ctx} {w w' w0 : World} {S S' : Nat → Prop} {L L' L0 : Nat → Lab} {s N : Nat} {vs : List Nat} {T T' : List V} {tm tm' : Array Value} {a : Act}

theorem relab_own {f : Nat → List Nat → Lab} {l : Lab} {s : Nat} {q : List Nat} (h : relab f l = .own s q) : ∃ s0 q0, l = .own s0 q0 ∧ f s0 q0 = .own s q := by
  cases l with
  | own s0 q0 => exact ⟨s0, q0, rfl, h⟩
  | stable => cases h
  | free => cases h
  | other => cases h

structure Fun (f : Nat → List Nat → Lab) (X : Nat → Prop) : Prop where
  id : ∀ s q, ¬ X s → f s q = .own s q
  to : ∀ s q s' q', X s → f s q = .own s' q' → X s'
  inj : ∀ s q s2 q2 s' q', f s q = .own s' q' → f s2 q2 = .own s' q' → s = s2 ∧ q = q2
  nf : ∀ s q, f s q ≠ .free

/-- What the world may do at a step that touches the slots X. -/
structure Wd (w w' : World) (L nl : Nat → Lab) (X : Nat → Prop) : Prop where
  os : w'.os = w.os
  tape : w'.tape = w.tape
  output : w'.output = w.output
  size : w.heap.size ≤ w'.heap.size
  old : ∀ k, k < w.heap.size → (∀ s q, L k = .own s q → ¬ X s) → w'.heap[k]? = w.heap[k]?
  free : ∀ k, w'.heap.size ≤ k → nl k = .free
  new : ∀ k s q, w.heap.size ≤ k → nl k = .own s q → X s

theorem Wd.refl (hI : Inv w0 L0 N vs T a w L) (X : Nat → Prop) : Wd w w L (fun _ => .free) X :=
  ⟨rfl, rfl, rfl, Nat.le_refl _, fun _ _ _ => rfl, fun _ _ => rfl, fun _ _ _ _ h => (by cases h)⟩

theorem newLab_old {f : Nat → List Nat → Lab} {nl : Nat → Lab} (hI : Inv w0 L0 N vs T a w L) {k : Nat} (h : L k ≠ .free) : newLab f w L nl k = relab f (L k) := by
  unfold newLab
  rw [if_pos (hI.lt h)]

theorem newLab_id {f : Nat → List Nat → Lab} {nl : Nat → Lab} {X : Nat → Prop} (hI : Inv w0 L0 N vs T a w L) (hf : Fun f X) {k s : Nat} {q : List Nat} (h : L k = .own s q) (hs : ¬ X s) :
    newLab f w L nl k = .own s q := by
  rw [newLab_old hI (by rw [h]; simp), h]
  simp [relab, hf.id s q hs]

theorem newLab_stable {f : Nat → List Nat → Lab} {nl : Nat → Lab} (hI : Inv w0 L0 N vs T a w L) {k : Nat} (h : L k = .stable) : newLab f w L nl k = .stable := by
  rw [newLab_old hI (by rw [h]; simp), h]
  rfl

theorem Inv.updF {a' : Act} {f : Nat → List Nat → Lab} {X : Nat → Prop} {nl : Nat → Lab} (hI : Inv w0 L0 N vs T a w L) (hf : Fun f X) (hw : Wd w w' L nl X)
    (hnl : ∀ k k' s q, w.heap.size ≤ k → nl k = .own s q → newLab f w L nl k' = .own s q → k = k')
    (hsz : a'.tmps.size = N) (hlen : T'.length = N) (hdf : a'.defers = [])
    (hown : ∀ k s q, X s → newLab f w L nl k = .own s q → (T'.getD s .dead).owns = true)
    (hon : ∀ s r, ¬ X s → (T.getD s .dead).on r = true → X r → (T.getD r .dead).owns = false)
    (hsame : ∀ s, ¬ X s → T'.getD s .dead = T.getD s .dead ∧ a'.tmps.getD s undef = a.tmps.getD s undef)
    (hroots : ∀ s r, X s → (T'.getD s .dead).on r = true → r ∈ vs)
    (hX : ∀ s, X s → SRep (newLab f w L nl) T' a'.tmps s (T'.getD s .dead) w' (a'.tmps.getD s undef)) : Inv w0 L0 N vs T' a' w' (newLab f w L nl) := by
  refine Inv.upd X hI hsz hlen hdf ?_ ?_ ?_ ?_ ?_ hsame ?_ ?_ hX
  · refine ⟨hw.os.trans hI.fr.os, hw.tape.trans hI.fr.tape, hw.output.trans hI.fr.output, Nat.le_trans hI.fr.size hw.size, fun k hk h0 => ?_⟩
    have h1 := hI.fr.keep k hk h0
    have hlt : k < w.heap.size := Nat.lt_of_lt_of_le hk hI.fr.size
    constructor
    · unfold newLab
      rw [if_pos hlt, h1.1]
      rcases h0 with h0 | h0 <;> rw [h0] <;> rfl
    · rw [hw.old k hlt, h1.2]
      intro s q hq
      rw [h1.1] at hq
      rcases h0 with h0 | h0 <;> rw [h0] at hq <;> cases hq
  · intro k hk
    unfold newLab
    rw [if_neg (by have := hw.size; omega)]
    exact hw.free k hk
  · intro k k' s q h h'
    by_cases hk : k < w.heap.size
    · by_cases hk' : k' < w.heap.size
      · unfold newLab at h h'
        rw [if_pos hk] at h
        rw [if_pos hk'] at h'
        obtain ⟨s0, q0, e0, f0⟩ := relab_own h
        obtain ⟨s1, q1, e1, f1⟩ := relab_own h'
        obtain ⟨rfl, rfl⟩ := hf.inj _ _ _ _ _ _ f0 f1
        exact hI.inj k k' _ _ e0 e1
      · have h2 : nl k' = .own s q := by unfold newLab at h'; rwa [if_neg hk'] at h'
        exact (hnl k' k s q (by omega) h2 h).symm
    · have h2 : nl k = .own s q := by unfold newLab at h; rwa [if_neg hk] at h
      exact hnl k k' s q (by omega) h2 h'
  · intro k s q h
    by_cases hs : X s
    · exact hown k s q hs h
    · rw [(hsame s hs).1]
      unfold newLab at h
      split at h
      · obtain ⟨s0, q0, e0, f0⟩ := relab_own h
        by_cases h0 : X s0
        · exact absurd (hf.to _ _ _ _ h0 f0) hs
        · rw [hf.id s0 q0 h0] at f0
          injection f0 with f0 f1
          subst f0 f1
          exact hI.owner k _ _ e0
      · exact absurd (hw.new k s q (by omega) h) hs
  · intro s hs k hk
    have hlt : k < w.heap.size := hI.lt (by rcases hk with hk | ⟨r, q, hk, _⟩ <;> rw [hk] <;> simp)
    rcases hk with hk | ⟨r, q, hk, hr⟩
    · refine ⟨by rw [newLab_stable hI hk, hk], hw.old k hlt fun s q h => ?_⟩
      rw [hk] at h; cases h
    · have hXr : ¬ X r := by
        rcases hr with rfl | hr
        · exact hs
        · intro hx
          have h1 := hon s r hs hr hx
          rw [hI.owner k r q hk] at h1
          cases h1
      refine ⟨by rw [newLab_id hI hf hk hXr, hk], hw.old k hlt fun s q h => ?_⟩
      rw [hk] at h
      injection h with h _
      subst h
      exact hXr
  · intro s r h
    by_cases hs : X s
    · exact hroots s r hs h
    · rw [(hsame s hs).1] at h
      exact hI.roots s r h
  · intro s r hs hr ho
    have hXr : ¬ X r := fun hx => by
      rw [hon s r hs hr hx] at ho
      cases ho
    exact hsame r hXr

/-- Data moves from slot r (place q, o) to slot d: how its rows are labelled then. -/
def cut : List Nat → List Nat → Option (List Nat)
  | [], z => some z
  | x :: q, y :: z => if x = y then cut q z else none
  | _ :: _, [] => none

theorem cut_append (q z : List Nat) : cut q (q ++ z) = some z := by
  induction q with
  | nil => rfl
  | cons x q ih => simp [cut, ih]

theorem cut_some {q z y : List Nat} (h : cut q z = some y) : z = q ++ y := by
  induction q generalizing z with
  | nil => simp only [cut, Option.some.injEq] at h; rw [h]; rfl
  | cons x q ih =>
    cases z with
    | nil => simp [cut] at h
    | cons y' z =>
      simp only [cut] at h
      split at h
      · rename_i he
        rw [he, ih h]; rfl
      · cases h

/-- r's rows under (q, o, sz) become d's down to depth m, and are read below; r's other rows are given up; d has none of its own. -/
def mvF (r : Nat) (q : List Nat) (o sz m d : Nat) : Nat → List Nat → Lab := fun s z =>
  if s = r then match cut q z with
    | some (y :: rest) => if o ≤ y ∧ y < o + sz then (if rest.length < m then .own d ((y - o) :: rest) else .stable) else .other
    | _ => .other
  else if s = d then .other else .own s z

theorem mvF_key {r d : Nat} {q : List Nat} {o sz m : Nat} {s : Nat} {z : List Nat} {s' : Nat} {z' : List Nat} (hh : mvF r q o sz m d s z = .own s' z') :
    (s = r ∧ ∃ i rest, z = q ++ (o + i) :: rest ∧ s' = d ∧ z' = i :: rest) ∨ (s ≠ d ∧ s ≠ r ∧ s' = s ∧ z' = z) := by
  unfold mvF at hh
  split at hh
  · rename_i hs
    subst hs
    split at hh
    · rename_i y0 rest hc
      split at hh
      · rename_i hb
        split at hh
        · injection hh with h1 h2
          refine .inl ⟨rfl, y0 - o, rest, ?_, h1.symm, h2.symm⟩
          rw [cut_some hc]
          congr 2
          omega
        · cases hh
      · cases hh
    · cases hh
  · split at hh
    · cases hh
    · rename_i hs1 hs2
      injection hh with h1 h2
      exact .inr ⟨hs2, hs1, h1.symm, h2.symm⟩

theorem mvF_fun {r d : Nat} {q : List Nat} {o sz m : Nat} (h : r ≠ d) : Fun (mvF r q o sz m d) (fun s => s = r ∨ s = d) := by
  refine ⟨fun s q hs => ?_, fun s q s' q' hs h => ?_, fun s z s2 z2 s' z' h1 h2 => ?_, fun s z => ?_⟩
  · have := not_or.1 hs
    simp [mvF, this]
  · rcases mvF_key h with ⟨_, _, _, _, rfl, _⟩ | ⟨h1, h2, _⟩
    · exact .inr rfl
    · exact absurd hs (not_or.2 ⟨h2, h1⟩)
  · rcases mvF_key h1 with ⟨rfl, i, rest, rfl, rfl, rfl⟩ | ⟨hs, hr, rfl, rfl⟩
    · rcases mvF_key h2 with ⟨rfl, i2, rest2, rfl, _, h4⟩ | ⟨hs2, hr2, h3, _⟩
      · injection h4 with h4 h5
        subst h4 h5
        exact ⟨rfl, rfl⟩
      · exact absurd h3.symm hs2
    · rcases mvF_key h2 with ⟨rfl, i2, rest2, rfl, h3, _⟩ | ⟨hs2, hr2, h3, h4⟩
      · exact absurd h3 hs
      · exact ⟨h3, h4⟩
  · unfold mvF
    repeat' split
    all_goals simp

theorem mvF_at {r d : Nat} {q : List Nat} {o sz m i : Nat} {rest : List Nat} (h : i < sz) : mvF r q o sz m d r (q ++ (o + i) :: rest) = if rest.length < m then .own d (i :: rest) else .stable := by
  unfold mvF
  rw [if_pos rfl, cut_append]
  simp only
  rw [if_pos ⟨by omega, by omega⟩, show o + i - o = i by omega]

/-- Own data of a place of r, seen as slot d's. -/
theorem Own.taken {r d : Nat} {q : List Nat} {o : Nat} {n m : Nat} {t : Ty} {x : t.den} {cs : List Value} {nl : Nat → Lab} {S : Nat → Prop} (hm : m ≤ n) (hI : Inv w0 L0 N vs T a w L)
    (hS : ∀ k, S k → L k = .stable) (h : Own w L S r n t x q o cs) : Own w (newLab (mvF r q o t.sz m d) w L nl) (SL (newLab (mvF r q o t.sz m d) w L nl) none) d m t x [] 0 cs :=
  Own.moveLow hm (fun k hk => ⟨.inl (newLab_stable hI (hS k hk)), rfl⟩) (fun k i rest hi hk => by
    have : newLab (mvF r q o t.sz m d) w L nl k = if rest.length < m then .own d (i :: rest) else .stable := (newLab_old hI (by rw [hk]; simp)).trans (by rw [hk]; exact mvF_at hi)
    refine ⟨rfl, fun h => ?_, fun h => .inl ?_⟩
    · rw [this, if_pos h]; simp
    · rw [this, if_neg (by omega)]) h

end
end Go.Proofs.Ytdfcejijcnhcaaa.C.Am
