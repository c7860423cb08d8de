/- A part of the proof: Am18. No conditions. -/
import Derived.Test.YtdfcejijcnhcaaaCAm17
set_option linter.unusedVariables false
set_option linter.unusedSimpArgs false
namespace Go.Proofs.Ytdfcejijcnhcaaa.C.Am

/-! ## 18. Parts go into a new value -/
def gatherF (d : Nat) (q : List Nat) (o0 m : Nat) (ms : List (Nat × Nat × Nat)) : Nat → List Nat → Lab := fun s z =>
  match ms.find? (fun p => p.1 == s) with
  | some p => match z with
    | y :: rest => if y < p.2.2 then (if rest.length < m then .own d (q ++ (o0 + p.2.1 + y) :: rest) else .stable) else .other
    | [] => .other
  | none => if s = d then .other else .own s z

def setAll (T : List V) (ups : List (Nat × V)) : List V := ups.foldl (fun T u => T.set u.1 u.2) T

def nodupB : List Nat → Bool
  | [] => true
  | x :: l => !l.contains x && nodupB l

section
variable {P : Program} {C : Ctx} {w w' w0 : World} {S S' : Nat → Prop} {L L' L0 : Nat → Lab} {s N : Nat} {vs : List Nat} {T T' : List V} {tm tm' : Array Value} {a : Act}

theorem find_mem {ms : List (Nat × Nat × Nat)} {s : Nat} {p : Nat × Nat × Nat} (h : ms.find? (fun p => p.1 == s) = some p) : p ∈ ms ∧ p.1 = s := by
  refine ⟨List.mem_of_find?_eq_some h, ?_⟩
  have := List.find?_some h
  simpa using this

theorem find_of_mem {ms : List (Nat × Nat × Nat)} (hn : nodupB (ms.map (·.1)) = true) {p : Nat × Nat × Nat} (h : p ∈ ms) : ms.find? (fun p' => p'.1 == p.1) = some p := by
  induction ms with
  | nil => cases h
  | cons x l ih =>
    simp only [List.map_cons, nodupB, Bool.and_eq_true, Bool.not_eq_true'] at hn
    rcases List.mem_cons.1 h with rfl | h
    · simp
    · have hne : x.1 ≠ p.1 := fun e => by
        have : (l.map (·.1)).contains x.1 = true := by
          rw [List.contains_iff_mem, e]
          exact List.mem_map_of_mem h
        rw [hn.1] at this
        cases this
      rw [List.find?_cons_of_neg (by simpa using hne)]
      exact ih hn.2 h

theorem Srt.disj {ms : List (Nat × Nat × Nat)} {b : Nat} (h : Srt b ms) (hn : nodupB (ms.map (·.1)) = true) : ∀ p p', p ∈ ms → p' ∈ ms → p.1 ≠ p'.1 → p.2.1 + p.2.2 ≤ p'.2.1 ∨ p'.2.1 + p'.2.2 ≤ p.2.1 := by
  have lower : ∀ {ms : List (Nat × Nat × Nat)} {b : Nat}, Srt b ms → ∀ p ∈ ms, b ≤ p.2.1 := by
    intro ms
    induction ms with
    | nil => intro b _ p hp; cases hp
    | cons x l ih =>
      obtain ⟨s, o, sz⟩ := x
      intro b h p hp
      rcases List.mem_cons.1 hp with rfl | hp
      · exact h.1
      · have := ih h.2 p hp
        have := h.1
        omega
  induction ms generalizing b with
  | nil => intro p p' hp; cases hp
  | cons x l ih =>
    obtain ⟨s, o, sz⟩ := x
    simp only [List.map_cons, nodupB, Bool.and_eq_true, Bool.not_eq_true'] at hn
    intro p p' hp hp' hne
    rcases List.mem_cons.1 hp with rfl | hp
    · rcases List.mem_cons.1 hp' with rfl | hp'
      · exact absurd rfl hne
      · exact .inl (lower h.2 p' hp')
    · rcases List.mem_cons.1 hp' with rfl | hp'
      · exact .inr (lower h.2 p hp)
      · exact ih h.2 hn.2 p p' hp hp' hne

theorem gatherF_key {d : Nat} {q : List Nat} {o0 m : Nat} {ms : List (Nat × Nat × Nat)} {s : Nat} {z : List Nat} {s' : Nat} {z' : List Nat} (h : gatherF d q o0 m ms s z = .own s' z') :
    (∃ p y rest, ms.find? (fun p => p.1 == s) = some p ∧ z = y :: rest ∧ y < p.2.2 ∧ s' = d ∧ z' = q ++ (o0 + p.2.1 + y) :: rest) ∨ (ms.find? (fun p => p.1 == s) = none ∧ s ≠ d ∧ s' = s ∧ z' = z) := by
  unfold gatherF at h
  split at h
  · rename_i p hp
    split at h
    · split at h
      · split at h
        · injection h with h1 h2
          exact .inl ⟨p, _, _, hp, rfl, by assumption, h1.symm, h2.symm⟩
        · cases h
      · cases h
    · cases h
  · rename_i hp
    split at h
    · cases h
    · injection h with h1 h2
      exact .inr ⟨hp, by assumption, h1.symm, h2.symm⟩

theorem gatherF_fun {d : Nat} {q : List Nat} {o0 m b : Nat} {ms : List (Nat × Nat × Nat)} (hs : Srt b ms) (hn : nodupB (ms.map (·.1)) = true) : Fun (gatherF d q o0 m ms) (fun s => s = d ∨ s ∈ ms.map (·.1)) := by
  refine ⟨fun s z hX => ?_, fun s z s' z' hX h => ?_, fun s z s2 z2 s' z' h1 h2 => ?_, fun s z => ?_⟩
  · have hX := not_or.1 hX
    have : ms.find? (fun p => p.1 == s) = none := by
      rw [List.find?_eq_none]
      intro p hp he
      exact hX.2 (by rw [List.mem_map]; exact ⟨p, hp, by simpa using he⟩)
    simp [gatherF, this, hX.1]
  · rcases gatherF_key h with ⟨_, _, _, _, _, _, rfl, _⟩ | ⟨h1, h2, rfl, _⟩
    · exact .inl rfl
    · exact hX
  · rcases gatherF_key h1 with ⟨p, y, rest, hp, rfl, hy, rfl, rfl⟩ | ⟨hp, hd, rfl, rfl⟩
    · rcases gatherF_key h2 with ⟨p', y', rest', hp', rfl, hy', _, he⟩ | ⟨_, hd2, h3, _⟩
      · have he := List.append_cancel_left he
        injection he with he1 he2
        subst he2
        obtain ⟨m1, e1⟩ := find_mem hp
        obtain ⟨m2, e2⟩ := find_mem hp'
        by_cases hne : p.1 = p'.1
        · have hpp : p = p' := by
            have f1 := find_of_mem hn m1
            have f2 := find_of_mem hn m2
            rw [hne] at f1
            rw [f1] at f2
            exact Option.some.inj f2
          subst hpp
          exact ⟨e1.symm.trans e2, by rw [show y = y' by omega]⟩
        · have := hs.disj hn p p' m1 m2 hne
          omega
      · exact absurd h3.symm hd2
    · rcases gatherF_key h2 with ⟨_, _, _, _, _, _, h3, _⟩ | ⟨_, _, h3, h4⟩
      · exact absurd h3 hd
      · exact ⟨h3, h4⟩
  · unfold gatherF
    repeat' split
    all_goals simp

theorem gatherF_went {d : Nat} {q : List Nat} {o0 m : Nat} {ms : List (Nat × Nat × Nat)} {nl : Nat → Lab} (hI : Inv w0 L0 N vs T a w L) (hn : nodupB (ms.map (·.1)) = true) :
    Went L (newLab (gatherF d q o0 m ms) w L nl) d q o0 m ms := by
  intro s o sz hm k y rest hy hk
  have hf := find_of_mem hn hm
  have : newLab (gatherF d q o0 m ms) w L nl k = if rest.length < m then .own d (q ++ (o0 + o + y) :: rest) else .stable := by
    rw [newLab_old hI (by rw [hk]; simp), hk]
    simp only [relab, gatherF, hf]
    rw [if_pos hy]
  refine ⟨fun h => ?_, fun h => ?_⟩
  · rw [this, if_pos h]
  · rw [this, if_neg (by omega)]

theorem getD_setAll (ups : List (Nat × V)) (T : List V) (s : Nat) (h : s ∉ ups.map (·.1)) : (setAll T ups).getD s .dead = T.getD s .dead := by
  unfold setAll
  induction ups generalizing T with
  | nil => rfl
  | cons u l ih =>
    simp only [List.map_cons, List.mem_cons, not_or] at h
    simp only [List.foldl_cons]
    rw [ih _ h.2, getD_set, if_neg (fun e => h.1 e.1)]

theorem length_setAll (ups : List (Nat × V)) (T : List V) : (setAll T ups).length = T.length := by
  unfold setAll
  induction ups generalizing T with
  | nil => rfl
  | cons u l ih => simp only [List.foldl_cons]; rw [ih]; simp

theorem setAll_append (u1 u2 : List (Nat × V)) (T : List V) : setAll T (u1 ++ u2) = setAll (setAll T u1) u2 := by
  simp [setAll, List.foldl_append]

theorem getD_deads (ss : List Nat) (T : List V) (s : Nat) (h : s ∈ ss) : (setAll T (ss.map fun s => (s, V.dead))).getD s .dead = .dead := by
  unfold setAll
  induction ss generalizing T with
  | nil => cases h
  | cons x l ih =>
    simp only [List.map_cons, List.foldl_cons]
    by_cases hl : s ∈ l
    · exact ih _ hl
    · rcases List.mem_cons.1 h with rfl | h
      · have := getD_setAll (l.map fun s => (s, V.dead)) (T.set s .dead) s (by simpa using hl)
        unfold setAll at this
        rw [this, getD_set]
        split
        · rfl
        · rename_i hh
          exact getD_out (Nat.le_of_not_lt fun hl => hh ⟨rfl, hl⟩)
      · exact absurd h hl

/-- The slots of the parts are given up, and slot d gets the value that is made of them. -/
theorem Inv.gather (hI : Inv w0 L0 N vs T a w L) {d : Nat} {q : List Nat} {o0 m b hi : Nat} {n : Option Nat} {ms : List (Nat × Nat × Nat)} {nl : Nat → Lab} {v : V} {c : Value} (hd : d < N) (hid : (T.getD d .dead).idle = true)
    (hs : Srt b ms) (hn : nodupB (ms.map (·.1)) = true) (hsrc : SrcOk T b hi n ms) (hvs : ∀ s, s ∈ ms.map (·.1) → s ∉ vs)
    (hw : Wd w w' L nl (fun s => s = d ∨ s ∈ ms.map (·.1))) (hold : ∀ k, k < w.heap.size → w'.heap[k]? = w.heap[k]?) (hnl : ∀ k k' q', w.heap.size ≤ k → nl k = .own d q' → newLab (gatherF d q o0 m ms) w L nl k' = .own d q' → k = k') (hnd : ∀ k s q', w.heap.size ≤ k → nl k = .own s q' → s = d)
    (hv : v.root = none) (hvo : ∀ k q', newLab (gatherF d q o0 m ms) w L nl k = .own d q' → v.owns = true)
    (hr : ∀ T' tm', SRep (newLab (gatherF d q o0 m ms) w L nl) T' tm' d v w' c) :
    Inv w0 L0 N vs (setAll T (ms.map (fun p => (p.1, V.dead)) ++ [(d, v)])) (a.put (some d) c) w' (newLab (gatherF d q o0 m ms) w L nl) := by
  have hdm : d ∉ ms.map (·.1) := fun h => by
    obtain ⟨p, hp, rfl⟩ := List.mem_map.1 h
    obtain ⟨_, _, m', t, x, h1, h2, h3, _⟩ := hsrc p.1 p.2.1 p.2.2 hp
    rw [h1] at hid
    simp [V.idle, V.owns, h2, h3] at hid
  have hmm : ms.map (fun p => (p.1, V.dead)) = (ms.map (·.1)).map fun s => (s, V.dead) := by simp [List.map_map]
  have hT : setAll T (ms.map (fun p => (p.1, V.dead)) ++ [(d, v)]) = (setAll T ((ms.map (·.1)).map fun s => (s, V.dead))).set d v := by
    rw [setAll_append, hmm]; rfl
  have hlen : (setAll T ((ms.map (·.1)).map fun s => (s, V.dead))).length = N := by rw [length_setAll, hI.len]
  have hTd : (setAll T (ms.map (fun p => (p.1, V.dead)) ++ [(d, v)])).getD d .dead = v := by
    rw [hT, getD_set, if_pos ⟨rfl, by rw [hlen]; exact hd⟩]
  have hTs : ∀ s, s ∈ ms.map (·.1) → (setAll T (ms.map (fun p => (p.1, V.dead)) ++ [(d, v)])).getD s .dead = .dead := by
    intro s hs
    rw [hT, getD_set, if_neg (fun e => hdm (by rw [← e.1]; exact hs))]
    exact getD_deads _ _ _ hs
  have hno : (T.getD d .dead).owns = false := V.not_owns hid
  refine Inv.updF (X := fun s => s = d ∨ s ∈ ms.map (·.1)) hI (gatherF_fun hs hn) hw ?_ (by simp [Act.put, hI.size]) (by rw [hT, List.length_set, hlen]) hI.dfr ?_ ?_ ?_ ?_ ?_
  · intro k k' s q' hk h h'
    obtain rfl := hnd k s q' hk h
    exact hnl k k' q' hk h h'
  · intro k s q' hX h
    rcases hX with rfl | hX
    · rw [hTd]; exact hvo k q' h
    · exfalso
      unfold newLab at h
      split at h
      · obtain ⟨s0, q0, e0, f0⟩ := relab_own h
        rcases gatherF_key f0 with ⟨_, _, _, _, _, _, rfl, _⟩ | ⟨h1, h2, rfl, _⟩
        · exact hdm hX
        · rw [List.find?_eq_none] at h1
          obtain ⟨p, hp, rfl⟩ := List.mem_map.1 hX
          exact h1 p hp (by simp)
      · obtain rfl := hnd k s q' (by omega) h
        exact hdm hX
  · intro s r hX hon hr
    rcases hr with rfl | hr
    · exact hno
    · exact absurd (hI.roots s r hon) (hvs r hr)
  · intro s hX
    have hX' := not_or.1 hX
    rw [hT, getD_set, if_neg (fun e => hX'.1 e.1), getD_setAll _ _ _ (by simpa [List.map_map] using hX'.2)]
    refine ⟨rfl, ?_⟩
    show (a.tmps.setIfInBounds d c).getD s undef = _
    rw [getD_setA, if_neg (fun e => hX'.1 e.1)]
  · intro s r hX hon
    rcases hX with rfl | hX
    · rw [hTd] at hon
      simp [V.on, hv] at hon
    · rw [hTs s hX] at hon
      simp [V.on, V.root] at hon
  · intro s hX
    rcases hX with rfl | hX
    · rw [hTd]
      show SRep _ _ _ _ _ _ ((a.tmps.setIfInBounds s c).getD s undef)
      rw [getD_setA, if_pos ⟨rfl, by rw [hI.size]; exact hd⟩]
      exact hr _ _
    · rw [hTs s hX]; trivial
end
end Go.Proofs.Ytdfcejijcnhcaaa.C.Am
