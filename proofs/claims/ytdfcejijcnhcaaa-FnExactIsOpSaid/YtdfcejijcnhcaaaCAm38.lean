/- A part of the proof: Am38. No conditions. -/
import Derived.Test.YtdfcejijcnhcaaaCAm37
set_option linter.unusedVariables false
set_option linter.unusedSimpArgs false
namespace Go.Proofs.Ytdfcejijcnhcaaa.C.Am

/-! ## 38. The step of append -/
section
variable {P : Program} {C : Ctx} {w w' w0 : World} {S S' : Nat → Prop} {L L' L0 : Nat → Lab} {s N : Nat} {vs : List Nat} {T T' : List V} {tm tm' : Array Value} {a : Act}

theorem baseM_rep (hI : Inv w0 L0 N vs T a w L) {e : TypeId} {t : Ty} {x : Operand} {b : Bas t} {log : List Nat} (h : (baseM vs e t x).Runs T b log) (d : Nat) :
    ∃ so, ((b.s = some so ∧ so ∉ vs ∧ (T.getD so .dead).owns = true ∧ (T.getD so .dead).root = none) ∨ (b.s = none ∧ so = d)) ∧ Own w L (SL L none) so (b.n + 1) (.slice e t) b.xs [] 0 [a.eval x] := by
  cases x with
  | tmp s =>
    obtain ⟨log', rfl, h⟩ := h
    have hs := hI.slots s
    dsimp only at h
    generalize hv : T.getD s .dead = v at h hs
    split at h
    · rename_i n t' y
      split at h
      · rename_i ht
        subst ht
        split at h
        · exact h.elim
        · rename_i hc
          obtain ⟨rfl, _⟩ := h
          obtain ⟨_, cs, hf, ho⟩ := hs
          refine ⟨s, .inl ⟨rfl, by simpa using hc, by rw [hv]; simp [V.owns, Ty.depth], by rw [hv]; rfl⟩, ?_⟩
          have hf : cs = [a.tmps.getD s undef] := hf
          rw [hf] at ho
          exact ho
      · exact h.elim
    · exact h.elim
  | const c =>
    dsimp only [baseM] at h
    split at h
    · cases ‹Operand.const _ = _›
    · rename_i hc
      cases hc
      obtain ⟨rfl, _⟩ := h
      exact ⟨d, .inr ⟨rfl, rfl⟩, by simp only [Own]; exact .inl ⟨rfl, trivial⟩⟩
    · exact h.elim
  | func f => exact h.elim
  | global g => exact h.elim

/-- What stands in the caller's hands of what is appended. -/
theorem srcM_rep (hI : Inv w0 L0 N vs T a w L) {e e' : TypeId} {t : Ty} {x : Operand} {c : Srcs t} {log : List Nat} (h : (srcM vs e t x).Runs T c log) {X2 : TypeId} (hX2 : P.underlying X2 = some (.slice e')) :
    ∃ news, AppSrc P t.sz X2 (a.eval x) c.ys.length news w ∧ (∀ s, c.s = some s → s ∉ vs ∧ (T.getD s .dead).owns = true ∧ (T.getD s .dead).root = none) ∧
      ∀ (L' : Nat → Lab) (w' : World) (d o0 m : Nat), (∀ k, c.n = some k → m ≤ k) → (∀ k, L k = .stable → L' k = .stable ∧ w'.heap[k]? = w.heap[k]?) →
        (∀ s k y rest, c.s = some s → y < c.ys.length * t.sz → L k = .own s (0 :: y :: rest) → w'.heap[k]? = w.heap[k]? ∧ (rest.length < m → L' k = .own d (0 :: (o0 + y) :: rest)) ∧ (m ≤ rest.length → L' k = .stable)) →
        ∀ j (h : j < c.ys.length), Own w' L' (SL L' none) d m t (c.ys[j]) [0] (o0 + j * t.sz) ((news.drop (j * t.sz)).take t.sz) := by
  -- what is read
  have hrd : ∀ {S : Nat → Prop} {ys : List t.den} {v : Value}, Rd w S (.slice e t) ys [v] →
      ∃ news, AppSrc P t.sz X2 v ys.length news w ∧ ∀ j (h : j < ys.length), Rd w S t (ys[j]) ((news.drop (j * t.sz)).take t.sz) := by
    intro S ys v hr
    simp only [Rd] at hr
    obtain ⟨A, cp, hv, h1, h2, h3⟩ := hr
    have hv : v = _ := (List.cons.inj hv).1
    subst hv
    by_cases hy : ys = []
    · subst hy
      refine ⟨[], ?_, fun j h => absurd h (by simp)⟩
      cases A with
      | none => exact AppSrc.none hX2 cp
      | some A => exact AppSrc.row hX2 A 0 cp (by simp) (fun j u h => by simp at h) (by simp)
    · obtain ⟨g, o, rfl, hS, h4⟩ := h3 hy
      obtain ⟨news, n1, n2⟩ := gatherCells t.sz ys.length (fun j h => (h4 j h).choose) (fun j h => Rd.len (h4 j h).choose_spec.1)
      refine ⟨news, AppSrc.row hX2 ⟨g, o, none⟩ ys.length cp n1 (fun j u hu => ?_) (fun u hu => ?_), fun j h => by rw [n2 j h]; exact (h4 j h).choose_spec.1⟩
      · rw [Addr.add_lit]
        exact cells_all (p := fun i u => w.cell? ⟨g, o + i, none⟩ = some u) n1 (fun j hj k u hk => by rw [n2 j hj] at hk; exact (h4 j hj).choose_spec.2 k u hk) j u hu
      · obtain ⟨i, hi⟩ := List.mem_iff_getElem?.1 hu
        refine cells_all (p := fun i u => u.oneCell' = true) n1 (fun j hj k u hk => ?_) i u hi
        rw [n2 j hj] at hk
        exact Rd.one (h4 j hj).choose_spec.1 u (List.mem_of_getElem? hk)
  cases x with
  | tmp s =>
    obtain ⟨log', rfl, h⟩ := h
    have hs := hI.slots s
    dsimp only at h
    split at h
    · rename_i hd
      obtain ⟨⟨l, t', y⟩, l1, l2, rfl, h1, h2⟩ := M.runs_bind h
      dsimp only at h2
      split at h2
      · rename_i ht
        subst ht
        obtain ⟨rfl, _⟩ := h2
        obtain ⟨cells, hf, hr, hdp⟩ := readD_rd hI h1 hs (fun _ => rfl)
        have hf : cells = [a.tmps.getD s undef] := hf
        subst hf
        obtain ⟨news, k1, k2⟩ := hrd hr
        refine ⟨news, k1, by simp, fun L' w' d o0 m _ _ _ j hj => ?_⟩
        have := k2 j hj
        have h0 := Own.of_rd (L := L) (s := 0) (q := []) (o := 0) this
        -- no slices: nothing is read
        exact flatAny hd h0
      · exact h2.elim
    · generalize hv : T.getD s .dead = v at h hs
      split at h
      · rename_i t' y
        split at h
        · rename_i ht
          subst ht
          obtain ⟨rfl, _⟩ := h
          obtain ⟨_, cs, hf, ho⟩ := hs
          have hf : cs = [a.tmps.getD s undef] := hf
          subst hf
          obtain ⟨news, k1, k2⟩ := hrd (Own.rd0 ho)
          refine ⟨news, k1, by simp, fun L' w' d o0 m hm hst _ j hj => ?_⟩
          obtain rfl : m = 0 := by have := hm 0 rfl; omega
          refine Own.of_rd (Rd.move (fun k hk => ?_) (k2 j hj))
          rcases hk with hk | ⟨_, _, hk, _⟩
          · exact ⟨.inl (hst k hk).1, (hst k hk).2⟩
          · cases hk
        · exact h.elim
      · rename_i n t' y
        split at h
        · rename_i ht
          subst ht
          split at h
          · exact h.elim
          · rename_i hc
            obtain ⟨rfl, _⟩ := h
            obtain ⟨_, cs, hf, ho⟩ := hs
            have hf : cs = [a.tmps.getD s undef] := hf
            subst hf
            have hprop : s ∉ vs ∧ (T.getD s .dead).owns = true ∧ (T.getD s .dead).root = none := ⟨by simpa using hc, by rw [hv]; simp [V.owns, Ty.depth], by rw [hv]; rfl⟩
            simp only [Own] at ho
            rcases ho with ⟨hnil, rfl⟩ | ⟨g, cap, cur, hcs, hL, hg, h5, h6, h7, h8⟩
            · have hnil : a.tmps.getD s undef = _ := (List.cons.inj hnil).1
              refine ⟨[], ?_, fun s' hs' => by cases hs'; exact hprop, fun L' w' d o0 m _ _ _ j hj => absurd hj (by simp)⟩
              show AppSrc P t.sz X2 (a.tmps.getD s undef) 0 [] w
              rw [hnil]
              exact AppSrc.none hX2 0
            · have hcs : a.tmps.getD s undef = _ := (List.cons.inj hcs).1
              have hlen : (List.length y) * t.sz ≤ cur.size := by rw [h7]; exact Nat.mul_le_mul_right _ h5
              refine ⟨cur.toList.take (y.length * t.sz), ?_, fun s' hs' => by cases hs'; exact hprop, fun L' w' d o0 m hm hst hlab j hj => ?_⟩
              · show AppSrc P t.sz X2 (a.tmps.getD s undef) y.length _ w
                rw [hcs]
                have hl : (cur.toList.take (y.length * t.sz)).length = y.length * t.sz := by rw [List.length_take]; simp; omega
                refine AppSrc.row hX2 ⟨g, 0, none⟩ _ cap hl (fun j u hu => ?_) (fun u hu => ?_)
                · rw [List.getElem?_take] at hu
                  split at hu
                  · rw [show (⟨g, 0, none⟩ : Addr).add j = ⟨g, j, none⟩ by rw [Addr.add_lit, Nat.zero_add]]
                    simp only [World.cell?, hg]
                    simpa using hu
                  · cases hu
                · obtain ⟨i, hi⟩ := List.mem_iff_getElem?.1 hu
                  refine cells_all (p := fun i u => u.oneCell' = true) hl (fun j hj k u hk => ?_) i u hi
                  have hw : ((cur.toList.take (y.length * t.sz)).drop (j * t.sz)).take t.sz = (cur.toList.drop (j * t.sz)).take t.sz := win fun k hk => by
                    have : (j + 1) * t.sz ≤ y.length * t.sz := Nat.mul_le_mul_right _ (by omega)
                    rw [Nat.add_mul, Nat.one_mul] at this
                    rw [List.getElem?_take, if_pos (by omega)]
                  rw [hw] at hk
                  exact Own.one (h8 j hj) u (List.mem_of_getElem? hk)
              · have hw : ((cur.toList.take (y.length * t.sz)).drop (j * t.sz)).take t.sz = (cur.toList.drop (j * t.sz)).take t.sz := win fun k hk => by
                  have : (j + 1) * t.sz ≤ y.length * t.sz := Nat.mul_le_mul_right _ (by have : j < List.length y := hj; omega)
                  rw [Nat.add_mul, Nat.one_mul] at this
                  rw [List.getElem?_take, if_pos (by omega)]
                rw [hw]
                refine Own.moveLow (hm n rfl) (fun k hk => ?_) (fun k i rest hi hk => ?_) (h8 j hj)
                · rcases hk with hk | ⟨_, _, hk, _⟩
                  · exact ⟨.inl (hst k hk).1, (hst k hk).2⟩
                  · cases hk
                · have hk' : L k = .own s (0 :: (j * t.sz + i) :: rest) := by simpa using hk
                  have hlt : j * t.sz + i < y.length * t.sz := by
                    have : (j + 1) * t.sz ≤ y.length * t.sz := Nat.mul_le_mul_right _ (by have : j < List.length y := hj; omega)
                    rw [Nat.add_mul, Nat.one_mul] at this
                    omega
                  have := hlab s k (j * t.sz + i) rest rfl hlt hk'
                  refine ⟨this.1, fun h => ?_, fun h => .inl (this.2.2 h)⟩
                  rw [this.2.1 h]
                  simp [Nat.add_assoc]
        · exact h.elim
      · exact h.elim
  | const cv =>
    dsimp only [srcM] at h
    split at h
    · cases ‹Operand.const _ = _›
    · rename_i hc
      cases hc
      obtain ⟨rfl, _⟩ := h
      exact ⟨[], AppSrc.none hX2 0, by simp, fun L' w' d o0 m _ _ _ j hj => absurd hj (by simp)⟩
    · exact h.elim
  | func f => exact h.elim
  | global g => exact h.elim
  where
  flatAny : {w w' : World} → {L L' : Nat → Lab} → {S S' : Nat → Prop} → {s s' n n' : Nat} → {t : Ty} → {x : t.den} → {q q' : List Nat} → {o o' : Nat} → {cs : List Value} → t.depth = 0 → Own w L S s n t x q o cs → Own w' L' S' s' n' t x q' o' cs := fun h1 h2 => Own.flat h1 h2

/-- The slots of the rows are given up, and slot d gets what they become. -/
theorem Inv.app (hI : Inv w0 L0 N vs T a w L) {d so : Nat} {sb sx : Option Nat} {kept : Bool} {b1 b2 m : Nat} {nl : Nat → Lab} {v : V} {c : Value} (hd : d < N) (hid : (T.getD d .dead).idle = true)
    (hso : (sb = some so ∧ so ∉ vs ∧ (T.getD so .dead).owns = true) ∨ (sb = none ∧ so = d)) (hsx : ∀ s, sx = some s → s ∉ vs ∧ (T.getD s .dead).owns = true)
    (hw : Wd w w' L nl (fun s => s = d ∨ s = so ∨ sx = some s)) (hnl : ∀ k s q, w.heap.size ≤ k → nl k = .own s q → s = d ∧ q = [0] ∧ k = w.heap.size ∧ kept = false)
    (hv : v.root = none) (hvo : v.owns = true)
    (hr : ∀ T' tm', SRep (newLab (appF d so sx kept b1 b2 m) w L nl) T' tm' d v w' c) :
    Inv w0 L0 N vs (setAll T ((sb.toList ++ sx.toList).map (fun s => (s, V.dead)) ++ [(d, v)])) (a.put (some d) c) w' (newLab (appF d so sx kept b1 b2 m) w L nl) := by
  have hno : (T.getD d .dead).owns = false := V.not_owns hid
  have hdm : d ∉ sb.toList ++ sx.toList := fun h => by
    have : (T.getD d .dead).owns = true := by
      rcases List.mem_append.1 h with h | h
      · rcases hso with ⟨rfl, _, ho⟩ | ⟨rfl, _⟩
        · simp only [Option.toList_some, List.mem_singleton] at h
          rw [h]; exact ho
        · simp at h
      · cases sx with
        | none => simp at h
        | some x =>
          simp only [Option.toList_some, List.mem_singleton] at h
          rw [h]; exact (hsx x rfl).2
    rw [hno] at this
    cases this
  have hX : ∀ s, (s = d ∨ s = so ∨ sx = some s) ↔ (s = d ∨ s ∈ sb.toList ++ sx.toList) := by
    intro s
    constructor
    · rintro (h | h | h)
      · exact .inl h
      · rcases hso with ⟨rfl, _⟩ | ⟨_, h2⟩
        · exact .inr (by simp [h])
        · exact .inl (h.trans h2)
      · exact .inr (by simp [h])
    · rintro (h | h)
      · exact .inl h
      · rcases List.mem_append.1 h with h | h
        · rcases hso with ⟨rfl, _⟩ | ⟨rfl, _⟩
          · simp only [Option.toList_some, List.mem_singleton] at h
            exact .inr (.inl h)
          · simp at h
        · cases sx with
          | none => simp at h
          | some x =>
            simp only [Option.toList_some, List.mem_singleton] at h
            exact .inr (.inr (by rw [h]))
  have hT : setAll T ((sb.toList ++ sx.toList).map (fun s => (s, V.dead)) ++ [(d, v)]) = (setAll T ((sb.toList ++ sx.toList).map fun s => (s, V.dead))).set d v := by
    rw [setAll_append]; rfl
  have hlen : (setAll T ((sb.toList ++ sx.toList).map fun s => (s, V.dead))).length = N := by rw [length_setAll, hI.len]
  have hTd : (setAll T ((sb.toList ++ sx.toList).map (fun s => (s, V.dead)) ++ [(d, v)])).getD d .dead = v := by
    rw [hT, getD_set, if_pos ⟨rfl, by rw [hlen]; exact hd⟩]
  have hTs : ∀ s, s ∈ sb.toList ++ sx.toList → (setAll T ((sb.toList ++ sx.toList).map (fun s => (s, V.dead)) ++ [(d, v)])).getD s .dead = .dead := by
    intro s hs
    rw [hT, getD_set, if_neg (fun e => hdm (by rw [← e.1]; exact hs))]
    exact getD_deads _ _ _ hs
  refine Inv.updF (X := fun s => s = d ∨ s = so ∨ sx = some s) hI appF_fun hw ?_ (by simp [Act.put, hI.size]) (by rw [hT, List.length_set, hlen]) hI.dfr ?_ ?_ ?_ ?_ ?_
  · intro k k' s q hk h h'
    obtain ⟨rfl, rfl, rfl, hkept⟩ := hnl k s q hk h
    unfold newLab at h'
    split at h'
    · exfalso
      obtain ⟨s0, q0, e0, f0⟩ := relab_own h'
      rcases appF_key f0 with ⟨_, _, hk2, _⟩ | ⟨_, _, _, _, _, _, h8⟩ | ⟨_, _, _, _, _, _, _, h8⟩ | ⟨_, _, hd2, h8, _⟩
      · rw [hkept] at hk2; cases hk2
      · simp at h8
      · simp at h8
      · exact hd2 h8.symm
    · exact (hnl k' s _ (by omega) h').2.2.1.symm
  · intro k s q hs h
    by_cases hsd : s = d
    · subst hsd; rw [hTd]; exact hvo
    · exfalso
      unfold newLab at h
      split at h
      · obtain ⟨s0, q0, e0, f0⟩ := relab_own h
        rcases appF_key f0 with ⟨_, _, _, h7, _⟩ | ⟨_, _, _, _, _, h7, _⟩ | ⟨_, _, _, _, _, _, h7, _⟩ | ⟨h5, h6, _, h7, _⟩
        · exact hsd h7
        · exact hsd h7
        · exact hsd h7
        · subst h7
          rcases hs with h | h | h
          · exact hsd h
          · exact h5 h
          · exact h6 h
      · exact hsd (hnl k s q (by omega) h).1
  · intro s r hs hon hr'
    rcases hr' with rfl | rfl | hx
    · exact hno
    · rcases hso with ⟨_, h, _⟩ | ⟨_, rfl⟩
      · exact absurd (hI.roots s _ hon) h
      · exact hno
    · exact absurd (hI.roots s r hon) (hsx r hx).1
  · intro s hs
    have hs' := not_or.1 (fun h => hs ((hX s).2 h))
    rw [hT, getD_set, if_neg (fun e => hs'.1 e.1), getD_setAll _ _ _ (by simpa [List.map_map] using hs'.2)]
    refine ⟨rfl, ?_⟩
    show (a.tmps.setIfInBounds d c).getD s undef = _
    rw [getD_setA, if_neg (fun e => hs'.1 e.1)]
  · intro s r hs hon
    rcases (hX s).1 hs with rfl | hs
    · rw [hTd] at hon
      simp [V.on, hv] at hon
    · rw [hTs s hs] at hon
      simp [V.on, V.root] at hon
  · intro s hs
    rcases (hX s).1 hs with rfl | hs
    · rw [hTd]
      show SRep _ _ _ _ _ _ ((a.tmps.setIfInBounds s c).getD s undef)
      rw [getD_setA, if_pos ⟨rfl, by rw [hI.size]; exact hd⟩]
      exact hr _ _
    · rw [hTs s hs]; trivial

theorem appDep_le {b : Nat} {n : Option Nat} : appDep b n ≤ b ∧ ∀ k, n = some k → appDep b n ≤ k := by
  cases n with
  | none => exact ⟨Nat.le_refl _, by simp⟩
  | some k => exact ⟨Nat.min_le_left _ _, fun k' h => by cases h; exact Nat.min_le_right _ _⟩

end
end Go.Proofs.Ytdfcejijcnhcaaa.C.Am
