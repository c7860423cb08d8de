/- A part of the proof: Am28. No conditions. -/
import Derived.Test.YtdfcejijcnhcaaaCAm27
set_option linter.unusedVariables false
set_option linter.unusedSimpArgs false
namespace Go.Proofs.Ytdfcejijcnhcaaa.C.Am

/-! ## 28. A call is made -/
section
variable {P : Program} {C : Ctx} {w w' w0 : World} {S S' : Nat → Prop} {L L' L0 : Nat → Lab} {s N : Nat} {vs : List Nat} {T T' : List V} {tm tm' : Array Value} {a : Act}

theorem fromCallee_own {mu : Option (Nat × Nat)} {m d : Nat} {l : Lab} {s : Nat} {q : List Nat} (h : fromCallee mu m d l = .own s q) : ∃ i, l = .own i q ∧ ((i = m ∧ s = d) ∨ (i ≠ m ∧ ∃ j, mu = some (s, j))) := by
  cases l with
  | own i q' =>
    unfold fromCallee at h
    dsimp only at h
    split at h
    · rename_i hi
      injection h with h1 h2
      exact ⟨i, by rw [h2], .inl ⟨hi, h1.symm⟩⟩
    · rename_i hi
      split at h
      · injection h with h1 h2
        subst h1
        exact ⟨i, by rw [h2], .inr ⟨hi, _, rfl⟩⟩
      · cases h
  | stable => cases h
  | free => cases h
  | other => cases h

/-- Blocks that are the callee's to turn. -/
def InPlay (mu : Option (Nat × Nat)) (l : Lab) : Prop := l = .free ∨ ∃ s q, l = .own s q ∧ mu.map (·.1) = some s

theorem backLab_in {mu : Option (Nat × Nat)} {m d : Nat} {k : Nat} (h : InPlay mu (L k)) : backLab mu m d L L' k = fromCallee mu m d (L' k) := by
  unfold backLab
  rcases h with h | ⟨s, q, h, hm⟩
  · rw [h]
  · rw [h]
    simp [hm]

theorem backLab_out {mu : Option (Nat × Nat)} {m d : Nat} {k : Nat} (h : ¬ InPlay mu (L k)) : backLab mu m d L L' k = L k := by
  unfold backLab
  cases hl : L k with
  | own s q =>
    dsimp only
    rw [if_neg]
    intro hm
    exact h (.inr ⟨s, q, hl, hm⟩)
  | stable => rfl
  | other => rfl
  | free => exact absurd (.inl hl) h

theorem toCallee_out {mu : Option (Nat × Nat)} {ls : List Nat} {l : Lab} (h : ¬ InPlay mu l) : toCallee mu ls l = .stable ∨ toCallee mu ls l = .other := by
  cases l with
  | own s q =>
    unfold toCallee
    cases mu with
    | none => dsimp only; split <;> simp
    | some p =>
      obtain ⟨r, i⟩ := p
      dsimp only
      rw [if_neg (fun e => h (.inr ⟨s, q, rfl, by simp [e]⟩))]
      split <;> simp
  | stable => exact .inl rfl
  | other => exact .inr rfl
  | free => exact absurd (.inl rfl) h

theorem Inv.called (hI : Inv w0 L0 N vs T a w L) {d m : Nat} (hd : d < N) (hid : (T.getD d .dead).idle = true) {mu : Option (Nat × Nat)} {ls : List Nat} {ps : List (Ty × Mode)} {rs : List (Ty × Nat)} (hm : m = ps.length)
    (hmi : ∀ r i, mu = some (r, i) → i < m) (hleft : Left w w' (fun k => toCallee mu ls (L k)) L' ps rs) (hlenT : T'.length = N)
    (hpl : ∀ j t n, ps[j]? = some (t, .mut n) → mu.map (·.2) = some j)
    (hTr : ∀ r i, mu = some (r, i) → ∃ t n y y2 cells, T.getD r .dead = .d none n t y ∧ t.depth ≤ n ∧ t.depth ≠ 0 ∧ T'.getD r .dead = .d none n t y2 ∧ Form t cells (a.tmps.getD r undef) ∧ Own w' L' (fun k => L' k = .stable) i n t y2 [] 0 cells)
    (hT : ∀ s r i, mu = some (r, i) → s ≠ d → s ≠ r → (T.getD s .dead).on r = true → (T'.getD s .dead = .dead ∧ (T.getD s .dead).owns = false) ∨ (T'.getD s .dead = T.getD s .dead ∧ ∃ t, T.getD s .dead = .view r [] t))
    (hT2 : ∀ s, s ≠ d → (∀ r i, mu = some (r, i) → s ≠ r ∧ (T.getD s .dead).on r = false) → T'.getD s .dead = T.getD s .dead)
    {V0 : V} {c : Value} (hTd : T'.getD d .dead = V0) (hVon : ∀ r, V0.on r = true → r ∈ vs) (hVown : ∀ k q, L' k = .own m q → V0.owns = true)
    (hls : ∀ r i, mu = some (r, i) → r ∉ ls)
    (hVrep : ∀ tm', SRep (backLab mu m d L L') T' tm' d V0 w' c) : Inv w0 L0 N vs T' (a.put (some d) c) w' (backLab mu m d L L') := by
  have hrd : ∀ r i, mu = some (r, i) → r ≠ d := by
    intro r i h
    obtain ⟨t, n, y, y2, cells, h1, h2, h3, _⟩ := hTr r i h
    refine idle_ne hid ?_
    rw [h1]
    simp only [V.owns, Bool.and_eq_true, bne_iff_ne]; omega
  have hnd : ∀ k q, L k ≠ .own d q := fun k q h => by
    have := hI.owner k d q h
    rw [V.not_owns hid] at this
    cases this
  -- blocks out of play stay
  have hstay : ∀ k, ¬ InPlay mu (L k) → (backLab mu m d L L' k = L k ∧ w'.heap[k]? = w.heap[k]?) := by
    intro k h
    have hlt : k < w.heap.size := hI.lt (fun e => h (.inl e))
    exact ⟨backLab_out h, (hleft.keep k hlt (toCallee_out h)).2⟩
  let X : Nat → Prop := fun s => s = d ∨ ∃ r i, mu = some (r, i) ∧ (s = r ∨ (T.getD s .dead).on r = true)
  have hnoX : ∀ s, ¬ X s → s ≠ d ∧ (∀ r i, mu = some (r, i) → s ≠ r ∧ (T.getD s .dead).on r = false) := by
    intro s hs
    have hs := not_or.1 hs
    refine ⟨hs.1, fun r i hr => ⟨fun e => hs.2 ⟨r, i, hr, .inl e⟩, ?_⟩⟩
    cases ho : (T.getD s .dead).on r with
    | false => rfl
    | true => exact absurd ⟨r, i, hr, .inr ho⟩ hs.2
  refine Inv.upd X hI (by simp [Act.put, hI.size]) hlenT hI.dfr ?_ ?_ ?_ ?_ ?_ ?_ ?_ ?_ ?_
  · refine ⟨hleft.os.trans hI.fr.os, hleft.tape.trans hI.fr.tape, hleft.output.trans hI.fr.output, Nat.le_trans hI.fr.size hleft.size, fun k hk h0 => ?_⟩
    have h1 := hI.fr.keep k hk h0
    have hni : ¬ InPlay mu (L k) := by
      rintro (h | ⟨s, q, h, _⟩) <;> rw [h1.1] at h <;> rcases h0 with h0 | h0 <;> rw [h0] at h <;> cases h
    have := hstay k hni
    exact ⟨this.1.trans h1.1, this.2.trans h1.2⟩
  · intro k hk
    have hf := hI.free k (Nat.le_trans hleft.size hk)
    rw [backLab_in (.inl hf), hleft.free k hk]
    rfl
  · intro k k' s q h h'
    by_cases hp : InPlay mu (L k)
    · rw [backLab_in hp] at h
      obtain ⟨i, e1, e2⟩ := fromCallee_own h
      by_cases hp' : InPlay mu (L k')
      · rw [backLab_in hp'] at h'
        obtain ⟨i', e1', e2'⟩ := fromCallee_own h'
        have : i = i' := by
          rcases e2 with ⟨rfl, rfl⟩ | ⟨h1, j, h2⟩
          · rcases e2' with ⟨h3, _⟩ | ⟨_, j, h4⟩
            · exact h3.symm
            · exact absurd rfl (hrd _ _ h4)
          · rcases e2' with ⟨rfl, rfl⟩ | ⟨h3, j', h4⟩
            · exact absurd rfl (hrd _ _ h2)
            · -- both are the written parameter's
              rcases hleft.owner k i q e1 with ⟨h5, _⟩ | ⟨t, n, h5⟩
              · exact absurd (h5.trans hm.symm) h1
              · rcases hleft.owner k' i' q e1' with ⟨h6, _⟩ | ⟨t', n', h6⟩
                · exact absurd (h6.trans hm.symm) h3
                · have e5 := hpl i t n h5
                  have e6 := hpl i' t' n' h6
                  rw [e5] at e6
                  exact Option.some.inj e6
        subst this
        exact hleft.inj k k' i q e1 e1'
      · rw [backLab_out hp'] at h'
        rcases e2 with ⟨_, rfl⟩ | ⟨_, j, h2⟩
        · exact absurd h' (hnd k' q)
        · exact absurd (.inr ⟨s, q, h', by simp [h2]⟩) hp'
    · rw [backLab_out hp] at h
      by_cases hp' : InPlay mu (L k')
      · rw [backLab_in hp'] at h'
        obtain ⟨i, e1, e2⟩ := fromCallee_own h'
        rcases e2 with ⟨_, rfl⟩ | ⟨_, j, h2⟩
        · exact absurd h (hnd k q)
        · exact absurd (.inr ⟨s, q, h, by simp [h2]⟩) hp
      · rw [backLab_out hp'] at h'
        exact hI.inj k k' s q h h'
  · intro k s q h
    by_cases hp : InPlay mu (L k)
    · rw [backLab_in hp] at h
      obtain ⟨i, e1, e2⟩ := fromCallee_own h
      rcases e2 with ⟨rfl, rfl⟩ | ⟨_, j, h2⟩
      · rw [hTd]; exact hVown k q e1
      · obtain ⟨t, n, y, y2, cells, h3, h4, h5, h6, _⟩ := hTr s j h2
        rw [h6]
        simp only [V.owns, Bool.and_eq_true, bne_iff_ne]; omega
    · rw [backLab_out hp] at h
      have ho := hI.owner k s q h
      have hsd : s ≠ d := idle_ne hid ho
      by_cases hx : X s
      · rcases hx with h | ⟨r, i, hr, h | h⟩
        · exact absurd h hsd
        · exact absurd (.inr ⟨s, q, by assumption, by simp [hr, h]⟩) hp
        · by_cases hsr : s = r
          · exact absurd (.inr ⟨s, q, by assumption, by simp [hr, hsr]⟩) hp
          · rcases hT s r i hr hsd hsr h with ⟨_, h⟩ | ⟨_, t, h⟩
            · rw [h] at ho; cases ho
            · rw [h] at ho; cases ho
      · obtain ⟨_, h2⟩ := hnoX s hx
        rw [hT2 s hsd h2]
        exact ho
  · intro s hs k hk
    obtain ⟨h1, h2⟩ := hnoX s hs
    refine hstay k ?_
    rintro (hp | ⟨s', q', hp, hmu⟩)
    · rcases hk with hk | ⟨r, q, hk, _⟩ <;> rw [hp] at hk <;> cases hk
    · obtain ⟨⟨r, i⟩, hr, hr2⟩ := Option.map_eq_some_iff.1 hmu
      dsimp only at hr2
      subst hr2
      rcases hk with hk | ⟨r', q, hk, hk2⟩
      · rw [hp] at hk; cases hk
      · rw [hp] at hk
        injection hk with hk _
        subst hk
        rcases hk2 with rfl | hk2
        · exact (h2 _ _ hr).1 rfl
        · rw [(h2 _ _ hr).2] at hk2; cases hk2
  · intro s hs
    obtain ⟨h1, h2⟩ := hnoX s hs
    refine ⟨hT2 s h1 h2, ?_⟩
    show (a.tmps.setIfInBounds d c).getD s undef = _
    rw [getD_setA, if_neg (fun e => h1 e.1)]
  · intro s r h
    by_cases hsd : s = d
    · subst hsd; rw [hTd] at h; exact hVon r h
    · by_cases hx : X s
      · rcases hx with h1 | ⟨r1, i, hr, h1⟩
        · exact absurd h1 hsd
        · by_cases hsr : s = r1
          · subst hsr
            obtain ⟨t, n, y, y2, cells, h3, h4, h5, h6, _⟩ := hTr s i hr
            rw [h6] at h
            simp [V.on, V.root] at h
          · have ho := h1.resolve_left hsr
            rcases hT s r1 i hr hsd hsr ho with ⟨h2, _⟩ | ⟨h2, _⟩
            · rw [h2] at h; simp [V.on, V.root] at h
            · rw [h2] at h; exact hI.roots s r h
      · obtain ⟨_, h2⟩ := hnoX s hx
        rw [hT2 s hsd h2] at h
        exact hI.roots s r h
  · intro s r hs hon ho
    obtain ⟨h1, h2⟩ := hnoX s hs
    have hrd' : r ≠ d := idle_ne hid ho
    have : T'.getD r .dead = T.getD r .dead := by
      by_cases hx : X r
      · rcases hx with h | ⟨r1, i, hr, h | h⟩
        · exact absurd h hrd'
        · subst h
          rw [(h2 r i hr).2] at hon; cases hon
        · by_cases hsr : r = r1
          · subst hsr; rw [(h2 r i hr).2] at hon; cases hon
          · rcases hT r r1 i hr hrd' hsr h with ⟨_, h⟩ | ⟨h, _⟩
            · rw [h] at ho; cases ho
            · exact h
      · obtain ⟨_, h3⟩ := hnoX r hx
        exact hT2 r hrd' h3
    refine ⟨this, ?_⟩
    show (a.tmps.setIfInBounds d c).getD r undef = _
    rw [getD_setA, if_neg (fun e => hrd' e.1)]
  · intro s hX
    by_cases hsd : s = d
    · subst hsd
      rw [hTd]
      show SRep _ _ _ _ _ _ ((a.tmps.setIfInBounds s c).getD s undef)
      rw [getD_setA, if_pos ⟨rfl, by rw [hI.size]; exact hd⟩]
      exact hVrep _
    · obtain ⟨r, i, hr, hX⟩ := hX.resolve_left hsd
      have hput : ∀ s', s' ≠ d → (a.put (some d) c).tmps.getD s' undef = a.tmps.getD s' undef := fun s' h => put_other (by simpa using Ne.symm h)
      obtain ⟨t, n, y, y2, cells, h3, h4, h5, h6, h7, h8⟩ := hTr r i hr
      by_cases hsr : s = r
      · subst hsr
        rw [h6, hput s hsd]
        refine ⟨by simp, cells, h7, ?_⟩
        have hii : i ≠ m := by have := hmi s i hr; omega
        refine Own.move (S := fun _ => False) (fun k hk => hk.elim) (fun k dd rest _ hk => ⟨?_, rfl⟩) (Own.full h4 h8)
        · have hp : InPlay mu (L k) := by
            apply Classical.byContradiction
            intro hp
            have hlt : k < w.heap.size := hI.lt (fun e => hp (.inl e))
            have h9 := (hleft.keep k hlt (toCallee_out hp)).1
            rw [hk] at h9
            rcases toCallee_out (ls := ls) hp with h | h <;> rw [h] at h9 <;> cases h9
          rw [backLab_in hp, hk]
          simp [fromCallee, hii, hr]
      · have ho := hX.resolve_left hsr
        rcases hT s r i hr hsd hsr ho with ⟨h, _⟩ | ⟨h, t', h'⟩
        · rw [h]; trivial
        · rw [h, h', hput s hsd]
          have hs := hI.slots s
          rw [h'] at hs
          obtain ⟨_, h1⟩ := hs
          rcases h1 with ⟨_, h2, l1, n1, x1, h9, h10⟩ | ⟨_, _, _, h2, _⟩
          · rw [h3] at h9
            cases h9
            refine ⟨by rw [h6]; simp only [V.deep, Bool.and_eq_true, bne_iff_ne]; omega, .inl ⟨rfl, ?_, none, n, y2, h6, by simp only [V.owns, Bool.and_eq_true, bne_iff_ne]; omega⟩⟩
            rw [hput r (hrd r i hr)]; exact h2
          · rw [h3] at h2; simp [V.isD] at h2

end
end Go.Proofs.Ytdfcejijcnhcaaa.C.Am
