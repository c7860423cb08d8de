/- A part of the proof: Am5. No conditions. -/
import Derived.Test.YtdfcejijcnhcaaaCAm4
set_option linter.unusedVariables false
set_option linter.unusedSimpArgs false
namespace Go.Proofs.Ytdfcejijcnhcaaa.C.Am

/-! ## 5. Steps that are alike -/
section
variable {w w' w0 : World} {S S' : Nat → Prop} {L L' L0 : Nat → Lab} {s N : Nat} {vs : List Nat} {T T' : List V} {tm tm' : Array Value} {a : Act}

/-- A slot that may be written over: nothing hangs on it. -/
def V.idle (v : V) : Bool := !v.owns

theorem V.not_owns {v : V} (h : v.idle = true) : v.owns = false := by simpa [V.idle] using h

theorem idle_ne {T : List V} {r d : Nat} (hid : (T.getD d .dead).idle = true) (h : (T.getD r .dead).owns = true) : r ≠ d := by
  rintro rfl
  rw [V.not_owns hid] at h
  cases h

theorem getD_set {α : Type} (l : List α) (d : Nat) (v z : α) (s : Nat) : (l.set d v).getD s z = if s = d ∧ d < l.length then v else l.getD s z := by
  simp only [List.getD_eq_getElem?_getD, List.getElem?_set]
  by_cases h : d = s
  · subst h
    by_cases h2 : d < l.length
    · simp [h2]
    · simp [h2]
  · simp [h, Ne.symm h]

theorem getD_setA (l : Array Value) (d : Nat) (v z : Value) (s : Nat) : (l.setIfInBounds d v).getD s z = if s = d ∧ d < l.size then v else l.getD s z := by
  simp only [Array.getD_eq_getD_getElem?, Array.getElem?_setIfInBounds]
  by_cases h : d = s
  · subst h
    by_cases h2 : d < l.size
    · simp [h2]
    · simp [h2]
  · simp [h, Ne.symm h]

/-- What a pure operation may do to the world: new blocks. -/
structure Grows (w w' : World) (L L' : Nat → Lab) (d : Nat) : Prop where
  os : w'.os = w.os
  tape : w'.tape = w.tape
  output : w'.output = w.output
  size : w.heap.size ≤ w'.heap.size
  old : ∀ k, k < w.heap.size → L' k = L k ∧ w'.heap[k]? = w.heap[k]?
  new : ∀ k s q, w.heap.size ≤ k → L' k = .own s q → s = d
  inj : ∀ k k' q, w.heap.size ≤ k → w.heap.size ≤ k' → L' k = .own d q → L' k' = .own d q → k = k'
  free : ∀ k, w'.heap.size ≤ k → L' k = .free

theorem Grows.refl (hI : Inv w0 L0 N vs T a w L) (d : Nat) : Grows w w L L d :=
  ⟨rfl, rfl, rfl, Nat.le_refl _, fun _ _ => ⟨rfl, rfl⟩, fun k s q hk h => (by rw [hI.free k hk] at h; cases h), fun k k' q hk _ h _ => (by rw [hI.free k hk] at h; cases h), hI.free⟩

theorem Inv.lt (hI : Inv w0 L0 N vs T a w L) {k : Nat} (h : L k ≠ .free) : k < w.heap.size := Nat.lt_of_not_le fun hk => h (hI.free k hk)

/-- The slot d gets a value; the world has grown at most. -/
theorem Inv.set (hI : Inv w0 L0 N vs T a w L) {d : Nat} (hd : d < N) (hid : (T.getD d .dead).idle = true) (hg : Grows w w' L L' d) (v : V) (c : Value)
    (hv : ∀ k q, w.heap.size ≤ k → L' k = .own d q → v.owns = true) (hvs : ∀ r, v.on r = true → r ∈ vs)
    (hr : SRep L' (T.set d v) (a.tmps.setIfInBounds d c) d v w' c) : Inv w0 L0 N vs (T.set d v) (a.put (some d) c) w' L' := by
  have hno : (T.getD d .dead).owns = false := V.not_owns hid
  have hnl : ∀ k q, L k ≠ .own d q := fun k q h => by
    have := hI.owner k d q h
    rw [hno] at this
    cases this
  refine Inv.upd (fun s => s = d) hI ?_ ?_ ?_ ?_ hg.free ?_ ?_ ?_ ?_ ?_ ?_ ?_
  · simp [Act.put, hI.size]
  · simp [hI.len]
  · exact hI.dfr
  · refine ⟨hg.os.trans hI.fr.os, hg.tape.trans hI.fr.tape, hg.output.trans hI.fr.output, Nat.le_trans hI.fr.size hg.size, fun k hk h0 => ?_⟩
    have h1 := hI.fr.keep k hk h0
    have h2 := hg.old k (Nat.lt_of_lt_of_le hk hI.fr.size)
    exact ⟨h2.1.trans h1.1, h2.2.trans h1.2⟩
  · intro k k' s q h h'
    by_cases hk : k < w.heap.size
    · by_cases hk' : k' < w.heap.size
      · rw [(hg.old k hk).1] at h
        rw [(hg.old k' hk').1] at h'
        exact hI.inj k k' s q h h'
      · obtain rfl := hg.new k' s q (by omega) h'
        rw [(hg.old k hk).1] at h
        exact absurd h (hnl k q)
    · obtain rfl := hg.new k s q (by omega) h
      by_cases hk' : k' < w.heap.size
      · rw [(hg.old k' hk').1] at h'
        exact absurd h' (hnl k' q)
      · exact hg.inj k k' q (by omega) (by omega) h h'
  · intro k s q h
    rw [getD_set]
    by_cases hk : k < w.heap.size
    · rw [(hg.old k hk).1] at h
      have := hI.owner k s q h
      by_cases hs : s = d
      · subst hs
        exact absurd h (hnl k q)
      · rw [if_neg (fun h => hs h.1)]
        exact this
    · obtain rfl := hg.new k s q (by omega) h
      rw [if_pos ⟨rfl, by rw [hI.len]; exact hd⟩]
      exact hv k q (by omega) h
  · intro s hs k hk
    refine hg.old k (hI.lt ?_)
    rcases hk with hk | ⟨r, q, hk, _⟩ <;> rw [hk] <;> simp
  · intro s hs
    rw [getD_set, if_neg (fun h => hs h.1)]
    refine ⟨rfl, ?_⟩
    show (a.tmps.setIfInBounds d c).getD s undef = _
    rw [getD_setA, if_neg (fun h => hs h.1)]
  · intro s r h
    rw [getD_set] at h
    split at h
    · exact hvs r h
    · exact hI.roots s r h
  · intro s r hs hr ho
    have hrd : r ≠ d := idle_ne hid ho
    rw [getD_set, if_neg (fun h => hrd h.1)]
    refine ⟨rfl, ?_⟩
    show (a.tmps.setIfInBounds d c).getD r undef = _
    rw [getD_setA, if_neg (fun h => hrd h.1)]
  · rintro s rfl
    rw [getD_set, if_pos ⟨rfl, by rw [hI.len]; exact hd⟩]
    show SRep L' (T.set s v) (a.tmps.setIfInBounds s c) s v w' ((a.tmps.setIfInBounds s c).getD s undef)
    rw [getD_setA, if_pos ⟨rfl, by rw [hI.size]; exact hd⟩]
    exact hr

/-- Slots are given up; what hangs on them is given up, too. -/
theorem Inv.kill (hI : Inv w0 L0 N vs T a w L) (g : Nat → Bool) (hlen : T'.length = N) (hT : ∀ s, T'.getD s .dead = if g s = true then .dead else T.getD s .dead)
    (hc : ∀ s r, g s = false → (T.getD s .dead).on r = true → (T.getD r .dead).owns = true → g r = false) :
    Inv w0 L0 N vs T' a w (fun k => match L k with | .own s q => if g s = true then .other else .own s q | x => x) := by
  have hown : ∀ k s q, (match L k with | .own s q => if g s = true then Lab.other else .own s q | x => x) = .own s q → L k = .own s q ∧ g s = false := by
    intro k s q h
    split at h
    · split at h
      · cases h
      · rename_i s' q' hk hg
        injection h with h1 h2
        subst h1 h2
        exact ⟨hk, by simpa using hg⟩
    · rename_i hk
      exact absurd h (hk s q)
  refine Inv.upd (fun s => g s = true) hI hI.size hlen hI.dfr ?_ ?_ ?_ ?_ ?_ ?_ ?_ ?_ ?_
  · refine ⟨hI.fr.os, hI.fr.tape, hI.fr.output, hI.fr.size, fun k hk h0 => ?_⟩
    have h1 := hI.fr.keep k hk h0
    refine ⟨?_, h1.2⟩
    rcases h0 with h0 | h0 <;> simp [h1.1, h0]
  · intro k hk
    simp [hI.free k hk]
  · intro k k' s q h h'
    exact hI.inj k k' s q (hown k s q h).1 (hown k' s q h').1
  · intro k s q h
    obtain ⟨h1, h2⟩ := hown k s q h
    rw [hT, h2]
    simpa using hI.owner k s q h1
  · intro s hs k hk
    refine ⟨?_, rfl⟩
    rcases hk with hk | ⟨r, q, hk, hr⟩
    · simp [hk]
    · have hg : g r = false := by
        rcases hr with rfl | hr
        · simpa using hs
        · exact hc s r (by simpa using hs) hr (hI.owner k r q hk)
      simp [hk, hg]
  · intro s hs
    rw [hT, if_neg hs]
    exact ⟨rfl, rfl⟩
  · intro s r h
    rw [hT] at h
    split at h
    · simp [V.on, V.root] at h
    · exact hI.roots s r h
  · intro s r hs hr ho
    have := hc s r (by simpa using hs) hr ho
    rw [hT, this]
    exact ⟨by simp, rfl⟩
  · intro s hs
    rw [hT, if_pos hs]
    trivial

end
end Go.Proofs.Ytdfcejijcnhcaaa.C.Am
