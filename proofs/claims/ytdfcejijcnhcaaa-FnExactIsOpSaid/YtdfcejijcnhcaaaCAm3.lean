/- A part of the proof: Am3. No conditions. -/
import Derived.Test.YtdfcejijcnhcaaaCAm2
set_option linter.unusedVariables false
set_option linter.unusedSimpArgs false
namespace Go.Proofs.Ytdfcejijcnhcaaa.C.Am

/-! ## 3. A place is written -/
/-- The label's path lies under the cells [o, o + sz) of row q. -/
def Under (q : List Nat) (o sz : Nat) (q2 : List Nat) : Prop := ∃ d rest, d < sz ∧ q2 = q ++ (o + d) :: rest

def Reach (q : List Nat) (o sz : Nat) (q' : List Nat) (o' sz' : Nat) : Prop := (q' = q ∧ o ≤ o' ∧ o' + sz' ≤ o + sz) ∨ Under q o sz q'

structure Upd (w w' : World) (L L' : Nat → Lab) (S S' : Nat → Prop) (s : Nat) (q' : List Nat) (o' sz' g' : Nat) (cur cur' : Array Value) (e' : TypeId) : Prop where
  hS : ∀ k, S k → S' k ∧ w'.heap[k]? = w.heap[k]?
  hO : ∀ k q2, L k = .own s q2 → q2 ≠ q' → ¬ Under q' o' sz' q2 → L' k = L k ∧ w'.heap[k]? = w.heap[k]?
  hL : L g' = .own s q'
  hL' : L' g' = .own s q'
  h0 : w.heap[g']? = some (.cells cur e' (0, 0))
  h1 : w'.heap[g']? = some (.cells cur' e' (0, 0))
  hsz : cur'.size = cur.size
  hout : ∀ i, (i < o' ∨ o' + sz' ≤ i) → cur'[i]? = cur[i]?
  inj : ∀ k, L k = .own s q' → k = g'

section
variable {w w' : World} {S S' : Nat → Prop} {L L' : Nat → Lab} {s : Nat} {T : List V}

theorem take_drop_same {cur cur' : Array Value} {a b : Nat} (h : ∀ i, a ≤ i → i < a + b → cur'[i]? = cur[i]?) : (cur'.toList.drop a).take b = (cur.toList.drop a).take b := by
  apply List.ext_getElem?
  intro i
  rw [List.getElem?_take, List.getElem?_take]
  split
  · rw [List.getElem?_drop, List.getElem?_drop]
    have := h (a + i) (by omega) (by omega)
    simpa using this
  · rfl

theorem under_idx {q : List Nat} {o sz q2 : List Nat} : True := trivial

/-- A sibling's rows are not the place's. -/
theorem sib {q q' : List Nat} {o1 sz1 o' sz' x : Nat} {rest : List Nat} (hr : Reach q o1 sz1 q' o' sz') (hx : x < o1 ∨ o1 + sz1 ≤ x) :
    q ++ x :: rest ≠ q' ∧ ¬ Under q' o' sz' (q ++ x :: rest) := by
  rcases hr with ⟨rfl, h1, h2⟩ | ⟨d, r, hd, rfl⟩
  · refine ⟨fun h => ?_, fun ⟨d, r, hd, h⟩ => ?_⟩
    · have := congrArg List.length h; simp at this
    · have h := List.append_cancel_left h
      injection h with h _
      omega
  · refine ⟨fun h => ?_, fun ⟨d2, r2, hd2, h⟩ => ?_⟩
    · have h := List.append_cancel_left h
      injection h with h _
      omega
    · rw [List.append_assoc] at h
      have h := List.append_cancel_left h
      rw [List.cons_append] at h
      injection h with h _
      omega

theorem Own.sib {n : Nat} {t : Ty} {x : t.den} {q q' : List Nat} {o o1 sz1 o' sz' g' : Nat} {cur cur' : Array Value} {e' : TypeId} {cs : List Value}
    (hu : Upd w w' L L' S S' s q' o' sz' g' cur cur' e') (hr : Reach q o1 sz1 q' o' sz') (hx : o + t.sz ≤ o1 ∨ o1 + sz1 ≤ o)
    (h : Own w L S s n t x q o cs) : Own w' L' S' s n t x q o cs :=
  Own.move hu.hS (fun k d rest hd hk => by
    obtain ⟨h1, h2⟩ := Am.sib (rest := rest) hr (show o + d < o1 ∨ o1 + sz1 ≤ o + d by omega)
    have := hu.hO k _ hk h1 h2
    exact ⟨this.1.trans hk, this.2⟩) h

theorem comp_sz : {i : Nat} → {t : Ty} → {x : t.den} → {o1 : Nat} → {t1 : Ty} → {x1 : t1.den} → comp i t x = some (o1, ⟨t1, x1⟩) → o1 + t1.sz ≤ t.sz
  | 0, .pair a b, x, o1, t1, x1, hc => by
    simp only [comp, Option.some.injEq, Prod.mk.injEq] at hc
    obtain ⟨rfl, hc⟩ := hc
    cases hc
    simp [Ty.sz]
  | i + 1, .pair a b, x, o1, t1, x1, hc => by
    simp only [comp, Option.map_eq_some_iff] at hc
    obtain ⟨⟨o2, t2, x2⟩, hc, he⟩ := hc
    simp only [Prod.mk.injEq] at he
    obtain ⟨rfl, he⟩ := he
    cases he
    have := comp_sz hc
    simp only [Ty.sz]; omega
  | 0, .int _, _, _, _, _, hc => by simp only [comp, Option.some.injEq, Prod.mk.injEq] at hc; obtain ⟨rfl, hc⟩ := hc; cases hc; simp
  | 0, .bool, _, _, _, _, hc => by simp only [comp, Option.some.injEq, Prod.mk.injEq] at hc; obtain ⟨rfl, hc⟩ := hc; cases hc; simp
  | 0, .str, _, _, _, _, hc => by simp only [comp, Option.some.injEq, Prod.mk.injEq] at hc; obtain ⟨rfl, hc⟩ := hc; cases hc; simp
  | 0, .raw _, _, _, _, _, hc => by simp only [comp, Option.some.injEq, Prod.mk.injEq] at hc; obtain ⟨rfl, hc⟩ := hc; cases hc; simp
  | 0, .unit, _, _, _, _, hc => by simp only [comp, Option.some.injEq, Prod.mk.injEq] at hc; obtain ⟨rfl, hc⟩ := hc; cases hc; simp
  | 0, .agg _, _, _, _, _, hc => by simp only [comp, Option.some.injEq, Prod.mk.injEq] at hc; obtain ⟨rfl, hc⟩ := hc; cases hc; simp
  | 0, .slice _ _, _, _, _, _, hc => by simp only [comp, Option.some.injEq, Prod.mk.injEq] at hc; obtain ⟨rfl, hc⟩ := hc; cases hc; simp

theorem getP_reach : {p : List St} → {n : Nat} → {t : Ty} → {x : t.den} → {n' : Nat} → {t' : Ty} → {x' : t'.den} → {q : List Nat} → {o : Nat} → {log : List Nat} →
    (getP p n t x).Runs T ⟨n', t', x'⟩ log → Reach q o t.sz (node q o p).1 (node q o p).2 t'.sz
  | [], n, t, x, n', t', x', q, o, log, hr => by
    obtain ⟨he, _⟩ := hr
    cases he
    exact .inl ⟨rfl, Nat.le_refl _, Nat.le_refl _⟩
  | .fld i off :: p, n, .agg t, x, n', t', x', q, o, log, hr => by
    simp only [getP] at hr
    split at hr
    · rename_i o1 t1 x1 hc
      split at hr
      · rename_i ho
        subst ho
        have h1 := comp_sz hc
        rcases getP_reach (q := q) (o := o + o1) hr with ⟨h2, h3, h4⟩ | ⟨d, rest, hd, h⟩
        · exact .inl ⟨h2, by simp only [node]; omega, by simp only [node, Ty.sz]; omega⟩
        · exact .inr ⟨o1 + d, rest, by simp only [Ty.sz]; omega, by simp only [node]; rw [h, Nat.add_assoc]⟩
      · exact hr.elim
    · exact hr.elim
  | .idx sz i :: p, n + 1, .slice e t, xs, n', t', x', q, o, log, hr => by
    simp only [getP] at hr
    split at hr
    · rename_i hz
      subst hz
      obtain ⟨y, hy, hr⟩ := hr
      rcases getP_reach (q := q ++ [o]) (o := i.toNat * t.sz) hr with ⟨h2, h3, h4⟩ | ⟨d, rest, hd, h⟩
      · exact .inr ⟨0, [], by simp [Ty.sz], by simp only [node]; rw [h2]; rfl⟩
      · exact .inr ⟨0, (i.toNat * t.sz + d) :: rest, by simp [Ty.sz], by simp only [node]; rw [h]; simp⟩
    · exact hr.elim
  | .idx _ _ :: p, 0, .slice _ _, _, _, _, _, _, _, _, hr => by simp only [getP] at hr; exact hr.elim
  | .fld _ _ :: p, _, .int _, _, _, _, _, _, _, _, hr => by simp only [getP] at hr; exact hr.elim
  | .fld _ _ :: p, _, .bool, _, _, _, _, _, _, _, hr => by simp only [getP] at hr; exact hr.elim
  | .fld _ _ :: p, _, .str, _, _, _, _, _, _, _, hr => by simp only [getP] at hr; exact hr.elim
  | .fld _ _ :: p, _, .raw _, _, _, _, _, _, _, _, hr => by simp only [getP] at hr; exact hr.elim
  | .fld _ _ :: p, _, .unit, _, _, _, _, _, _, _, hr => by simp only [getP] at hr; exact hr.elim
  | .fld _ _ :: p, _, .pair _ _, _, _, _, _, _, _, _, hr => by simp only [getP] at hr; exact hr.elim
  | .fld _ _ :: p, _, .slice _ _, _, _, _, _, _, _, _, hr => by simp only [getP] at hr; exact hr.elim
  | .idx _ _ :: p, _, .int _, _, _, _, _, _, _, _, hr => by simp only [getP] at hr; exact hr.elim
  | .idx _ _ :: p, _, .bool, _, _, _, _, _, _, _, hr => by simp only [getP] at hr; exact hr.elim
  | .idx _ _ :: p, _, .str, _, _, _, _, _, _, _, hr => by simp only [getP] at hr; exact hr.elim
  | .idx _ _ :: p, _, .raw _, _, _, _, _, _, _, _, hr => by simp only [getP] at hr; exact hr.elim
  | .idx _ _ :: p, _, .unit, _, _, _, _, _, _, _, hr => by simp only [getP] at hr; exact hr.elim
  | .idx _ _ :: p, _, .pair _ _, _, _, _, _, _, _, _, hr => by simp only [getP] at hr; exact hr.elim
  | .idx _ _ :: p, _, .agg _, _, _, _, _, _, _, _, hr => by simp only [getP] at hr; exact hr.elim

/-- One field's new data among its siblings. -/
theorem modC_own {f : (t1 : Ty) → t1.den → M t1.den} {q' : List Nat} {o' sz' g' : Nat} {cur cur' : Array Value} {e' : TypeId}
    (hu : Upd w w' L L' S S' s q' o' sz' g' cur cur' e') :
    {i : Nat} → {t : Ty} → {x x2 : t.den} → {o1 : Nat} → {t1 : Ty} → {x1 : t1.den} → {n : Nat} → {q : List Nat} → {o : Nat} → {cs cs2 : List Value} → {log : List Nat} →
    comp i t x = some (o1, ⟨t1, x1⟩) → (modC i t x f).Runs T x2 log → Own w L S s n t x q o cs → Reach q (o + o1) t1.sz q' o' sz' →
    cs2.length = cs.length → (∀ j, (j < o1 ∨ o1 + t1.sz ≤ j) → cs2[j]? = cs[j]?) →
    (∀ y1 log1, (f t1 x1).Runs T y1 log1 → Own w' L' S' s n t1 y1 q (o + o1) ((cs2.drop o1).take t1.sz)) → Own w' L' S' s n t x2 q o cs2
  | 0, .pair a b, x, x2, o1, t1, x1, n, q, o, cs, cs2, log, hc, hm, h, hr, hl, hj, hf => by
    simp only [comp, Option.some.injEq, Prod.mk.injEq] at hc
    obtain ⟨rfl, hc⟩ := hc
    cases hc
    obtain ⟨y, l1, l2, rfl, hm1, hm2⟩ := M.runs_bind hm
    obtain ⟨rfl, _⟩ := hm2
    simp only [Own] at h ⊢
    obtain ⟨c0, c1, rfl, h0, h1⟩ := h
    have hl0 := Own.len h0
    have hl1 := Own.len h1
    refine ⟨cs2.take a.sz, cs2.drop a.sz, (List.take_append_drop _ _).symm, by simpa using hf _ _ hm1, ?_⟩
    have he : cs2.drop a.sz = c1 := by
      apply List.ext_getElem?
      intro i
      rw [List.getElem?_drop, hj _ (.inr (by omega)), List.getElem?_append_right (by omega)]
      congr 1
      omega
    rw [he]
    exact Own.sib hu hr (.inr (by simp)) h1
  | i + 1, .pair a b, x, x2, o1, t1, x1, n, q, o, cs, cs2, log, hc, hm, h, hr, hl, hj, hf => by
    simp only [comp, Option.map_eq_some_iff] at hc
    obtain ⟨⟨o2, t2, x2'⟩, hc, he⟩ := hc
    simp only [Prod.mk.injEq] at he
    obtain ⟨rfl, he⟩ := he
    cases he
    obtain ⟨y, l1, l2, rfl, hm1, hm2⟩ := M.runs_bind hm
    obtain ⟨rfl, _⟩ := hm2
    simp only [Own] at h ⊢
    obtain ⟨c0, c1, rfl, h0, h1⟩ := h
    have hl0 := Own.len h0
    have hl1 := Own.len h1
    have h2 := comp_sz hc
    refine ⟨cs2.take a.sz, cs2.drop a.sz, (List.take_append_drop _ _).symm, ?_, ?_⟩
    · have he : cs2.take a.sz = c0 := by
        apply List.ext_getElem?
        intro i
        rw [List.getElem?_take]
        split
        · rw [hj _ (.inl (by omega)), List.getElem?_append_left (by omega)]
        · rw [List.getElem?_eq_none (by omega)]
      rw [he]
      exact Own.sib hu hr (.inl (by omega)) h0
    · refine modC_own hu (o := o + a.sz) hc hm1 h1 (by rw [Nat.add_assoc]; exact hr) (by simp [hl] at hl ⊢; omega) (fun j hjj => ?_) (fun y1 log1 hy => ?_)
      · rw [List.getElem?_drop, hj _ (by omega), List.getElem?_append_right (by omega)]
        congr 1
        omega
      · rw [Nat.add_assoc, List.drop_drop]
        exact hf y1 log1 hy
  | 0, .int _, x, x2, o1, t1, x1, n, q, o, cs, cs2, log, hc, hm, h, hr, hl, hj, hf => by
    simp only [comp, Option.some.injEq, Prod.mk.injEq] at hc; obtain ⟨rfl, hc⟩ := hc; cases hc
    have := hf _ _ hm; rw [List.drop_zero, List.take_of_length_le (by rw [hl, Own.len h]; exact Nat.le_refl _)] at this; exact this
  | 0, .bool, x, x2, o1, t1, x1, n, q, o, cs, cs2, log, hc, hm, h, hr, hl, hj, hf => by
    simp only [comp, Option.some.injEq, Prod.mk.injEq] at hc; obtain ⟨rfl, hc⟩ := hc; cases hc
    have := hf _ _ hm; rw [List.drop_zero, List.take_of_length_le (by rw [hl, Own.len h]; exact Nat.le_refl _)] at this; exact this
  | 0, .str, x, x2, o1, t1, x1, n, q, o, cs, cs2, log, hc, hm, h, hr, hl, hj, hf => by
    simp only [comp, Option.some.injEq, Prod.mk.injEq] at hc; obtain ⟨rfl, hc⟩ := hc; cases hc
    have := hf _ _ hm; rw [List.drop_zero, List.take_of_length_le (by rw [hl, Own.len h]; exact Nat.le_refl _)] at this; exact this
  | 0, .raw _, x, x2, o1, t1, x1, n, q, o, cs, cs2, log, hc, hm, h, hr, hl, hj, hf => by
    simp only [comp, Option.some.injEq, Prod.mk.injEq] at hc; obtain ⟨rfl, hc⟩ := hc; cases hc
    have := hf _ _ hm; rw [List.drop_zero, List.take_of_length_le (by rw [hl, Own.len h]; exact Nat.le_refl _)] at this; exact this
  | 0, .unit, x, x2, o1, t1, x1, n, q, o, cs, cs2, log, hc, hm, h, hr, hl, hj, hf => by
    simp only [comp, Option.some.injEq, Prod.mk.injEq] at hc; obtain ⟨rfl, hc⟩ := hc; cases hc
    have := hf _ _ hm; rw [List.drop_zero, List.take_of_length_le (by rw [hl, Own.len h]; exact Nat.le_refl _)] at this; exact this
  | 0, .agg _, x, x2, o1, t1, x1, n, q, o, cs, cs2, log, hc, hm, h, hr, hl, hj, hf => by
    simp only [comp, Option.some.injEq, Prod.mk.injEq] at hc; obtain ⟨rfl, hc⟩ := hc; cases hc
    have := hf _ _ hm; rw [List.drop_zero, List.take_of_length_le (by rw [hl, Own.len h]; exact Nat.le_refl _)] at this; exact this
  | 0, .slice _ _, x, x2, o1, t1, x1, n, q, o, cs, cs2, log, hc, hm, h, hr, hl, hj, hf => by
    simp only [comp, Option.some.injEq, Prod.mk.injEq] at hc; obtain ⟨rfl, hc⟩ := hc; cases hc
    have := hf _ _ hm; rw [List.drop_zero, List.take_of_length_le (by rw [hl, Own.len h]; exact Nat.le_refl _)] at this; exact this

theorem compT_comp : {i : Nat} → {t : Ty} → {x : t.den} → {o1 : Nat} → {t1 : Ty} → compT i t = some (o1, t1) → ∃ x1, comp i t x = some (o1, ⟨t1, x1⟩)
  | 0, .pair a b, x, o1, t1, h => by simp only [compT, Option.some.injEq, Prod.mk.injEq] at h; obtain ⟨rfl, rfl⟩ := h; exact ⟨x.1, rfl⟩
  | i + 1, .pair a b, x, o1, t1, h => by
    simp only [compT, Option.map_eq_some_iff] at h
    obtain ⟨⟨o2, t2⟩, h, he⟩ := h
    simp only [Prod.mk.injEq] at he
    obtain ⟨rfl, rfl⟩ := he
    obtain ⟨x1, hx⟩ := compT_comp (x := x.2) h
    exact ⟨x1, by simp [comp, hx]⟩
  | 0, .int _, x, _, _, h => by simp only [compT, Option.some.injEq, Prod.mk.injEq] at h; obtain ⟨rfl, rfl⟩ := h; exact ⟨x, rfl⟩
  | 0, .bool, x, _, _, h => by simp only [compT, Option.some.injEq, Prod.mk.injEq] at h; obtain ⟨rfl, rfl⟩ := h; exact ⟨x, rfl⟩
  | 0, .str, x, _, _, h => by simp only [compT, Option.some.injEq, Prod.mk.injEq] at h; obtain ⟨rfl, rfl⟩ := h; exact ⟨x, rfl⟩
  | 0, .raw _, x, _, _, h => by simp only [compT, Option.some.injEq, Prod.mk.injEq] at h; obtain ⟨rfl, rfl⟩ := h; exact ⟨x, rfl⟩
  | 0, .unit, x, _, _, h => by simp only [compT, Option.some.injEq, Prod.mk.injEq] at h; obtain ⟨rfl, rfl⟩ := h; exact ⟨x, rfl⟩
  | 0, .agg _, x, _, _, h => by simp only [compT, Option.some.injEq, Prod.mk.injEq] at h; obtain ⟨rfl, rfl⟩ := h; exact ⟨x, rfl⟩
  | 0, .slice _ _, x, _, _, h => by simp only [compT, Option.some.injEq, Prod.mk.injEq] at h; obtain ⟨rfl, rfl⟩ := h; exact ⟨x, rfl⟩

theorem modP_own {q' : List Nat} {o' g' : Nat} {cur cur' : Array Value} {e' : TypeId} {n' : Nat} {t' : Ty} {x' y : t'.den}
    (hu : Upd w w' L L' S S' s q' o' t'.sz g' cur cur' e') (hy : Own w' L' S' s n' t' y q' o' ((cur'.toList.drop o').take t'.sz)) :
    {p : List St} → {n : Nat} → {t : Ty} → {x x2 : t.den} → {q : List Nat} → {o : Nat} → {g1 : Nat} → {cur1 : Array Value} → {e1 : TypeId} → {log log2 : List Nat} →
    node q o p = (q', o') → L g1 = .own s q → w.heap[g1]? = some (.cells cur1 e1 (0, 0)) → o + t.sz ≤ cur1.size → Own w L S s n t x q o ((cur1.toList.drop o).take t.sz) →
    (getP p n t x).Runs T ⟨n', t', x'⟩ log → (modP p t x t' y).Runs T x2 log2 →
    ∃ cur2, w'.heap[g1]? = some (.cells cur2 e1 (0, 0)) ∧ L' g1 = .own s q ∧ cur2.size = cur1.size ∧ (∀ i, (i < o ∨ o + t.sz ≤ i) → cur2[i]? = cur1[i]?) ∧
      Own w' L' S' s n t x2 q o ((cur2.toList.drop o).take t.sz)
  | [], n, t, x, x2, q, o, g1, cur1, e1, log, log2, hn, hg1, hh, hsz, h, hr, hm => by
    obtain ⟨he, _⟩ := hr
    cases he
    simp only [node, Prod.mk.injEq] at hn
    obtain ⟨rfl, rfl⟩ := hn
    simp only [modP, dif_pos] at hm
    obtain ⟨rfl, _⟩ := hm
    obtain rfl := hu.inj g1 hg1
    have e0 := hu.h0
    rw [hh] at e0
    injection e0 with e0
    injection e0 with e0 e2 _
    subst e0 e2
    exact ⟨cur', hu.h1, hu.hL', hu.hsz, hu.hout, hy⟩
  | .fld i off :: p, n, .agg t, x, x2, q, o, g1, cur1, e1, log, log2, hn, hg1, hh, hsz, h, hr, hm => by
    have hreach : Reach q o (Ty.agg t).sz q' o' t'.sz := by
      have := getP_reach (q := q) (o := o) hr
      rwa [hn] at this
    simp only [getP] at hr
    simp only [modP] at hm
    split at hr
    · rename_i o1 t1 x1 hc
      split at hr
      · rename_i ho
        subst ho
        split at hm
        · split at hm
          · rename_i o2 t2 hc2 ho2
            subst ho2
            simp only [Own, Ty.sz] at h hsz
            simp only [node] at hn
            have h1 := comp_own hc h
            have hcx : compT i t = some (o2, t1) := by
              obtain ⟨x9, hx9⟩ := compT_comp (t := t) (x := x) hc2
              rw [hc] at hx9
              simp only [Option.some.injEq, Prod.mk.injEq] at hx9
              rw [hc2]
              have := congrArg Sigma.fst hx9.2
              simp at this
              rw [this]
            have hr1 : Reach q (o + o2) t1.sz q' o' t'.sz := by
              have := getP_reach (q := q) (o := o + o2) hr
              rwa [hn] at this
            have hin : ((cur1.toList.drop (o + o2)).take t1.sz) = ((((cur1.toList.drop o).take t.sz).drop o2).take t1.sz) := by
              rw [List.drop_take, List.take_take, List.drop_drop, Nat.min_eq_left (by omega)]
            -- the new cells, by any run of the part
            have key : ∀ y1 log1, (modP p t1 x1 t' y).Runs T y1 log1 → _ := fun y1 log1 hy1 =>
              modP_own hu hy (p := p) (q := q) (o := o + o2) (g1 := g1) (cur1 := cur1) (e1 := e1) hn hg1 hh (by omega) (by rw [hin]; exact h1.2) hr hy1
            have hrun : ∃ y1 log1, (modP p t1 x1 t' y).Runs T y1 log1 := modC_runs hc hm
            obtain ⟨y1, log1, hy1⟩ := hrun
            obtain ⟨cur2, k1, k2, k3, k4, k5⟩ := key y1 log1 hy1
            refine ⟨cur2, k1, k2, k3, fun i hi => k4 i (by simp only [Ty.sz] at hi; omega), ?_⟩
            simp only [Own, Ty.sz]
            refine modC_own hu (cs := (cur1.toList.drop o).take t.sz) hc hm h hr1 (by simp; omega) (fun j hj => ?_) (fun z1 log3 hz => ?_)
            · rw [List.getElem?_take, List.getElem?_take]
              split
              · rw [List.getElem?_drop, List.getElem?_drop]
                have := k4 (o + j) (by omega)
                simpa using this
              · rfl
            · obtain ⟨cur3, j1, j2, j3, j4, j5⟩ := key z1 log3 hz
              rw [k1] at j1
              injection j1 with j1
              injection j1 with j1 _ _
              subst j1
              rw [List.drop_take, List.take_take, List.drop_drop, Nat.min_eq_left (by omega)]
              exact j5
          · exact hm.elim
        · exact hm.elim
      · exact hr.elim
    · exact hr.elim
  | .idx sz i :: p, n + 1, .slice e t, xs, x2, q, o, g1, cur1, e1, log, log2, hn, hg1, hh, hsz, h, hr, hm => by
    simp only [getP] at hr
    simp only [modP] at hm
    split at hr
    · rename_i hz
      subst hz
      obtain ⟨y0, hy0, hr⟩ := hr
      simp only [if_true] at hm
      obtain ⟨y9, hy9, hm⟩ := hm
      obtain rfl : y0 = y9 := by rw [hy0] at hy9; exact Option.some.inj hy9
      obtain ⟨z, l1, l2, rfl, hm1, hm2⟩ := M.runs_bind hm
      obtain ⟨rfl, _⟩ := hm2
      obtain ⟨hi, h0, rfl⟩ := getI_some hy0
      simp only [node] at hn
      have hr1 : Reach (q ++ [o]) (i.toNat * t.sz) t.sz q' o' t'.sz := by
        have := getP_reach (q := q ++ [o]) (o := i.toNat * t.sz) hr
        rwa [hn] at this
      simp only [Own] at h
      rcases h with ⟨_, rfl⟩ | ⟨g2, cap, cur2, hcs, hL, hg, h5, h6, h7, h8⟩
      · exact absurd hi (by simp)
      · have hb : i.toNat * t.sz + t.sz ≤ cur2.size := by
          rw [h7]
          calc i.toNat * t.sz + t.sz = (i.toNat + 1) * t.sz := by rw [Nat.add_mul, Nat.one_mul]
            _ ≤ cap * t.sz := Nat.mul_le_mul_right _ (by omega)
        obtain ⟨cur3, k1, k2, k3, k4, k5⟩ := modP_own hu hy (p := p) (q := q ++ [o]) (o := i.toNat * t.sz) (g1 := g2) (cur1 := cur2) (e1 := e) hn hL hg hb (h8 _ hi) hr hm1
        have hq : q ≠ q' ∧ ¬ Under q' o' t'.sz q := by
          rcases hr1 with ⟨hq, _⟩ | ⟨d, r, _, hq⟩
          · subst hq
            refine ⟨fun h => ?_, fun ⟨d, r, _, h⟩ => ?_⟩
            · have := congrArg List.length h; simp at this
            · have := congrArg List.length h; simp at this <;> omega
          · subst hq
            refine ⟨fun h => ?_, fun ⟨d, r, _, h⟩ => ?_⟩
            · have := congrArg List.length h; simp at this <;> omega
            · have := congrArg List.length h; simp at this <;> omega
        obtain ⟨m1, m2⟩ := hu.hO g1 q hg1 hq.1 hq.2
        refine ⟨cur1, by rw [m2]; exact hh, by rw [m1]; exact hg1, rfl, fun _ _ => rfl, ?_⟩
        simp only [Own]
        refine .inr ⟨g2, cap, cur3, by rw [hcs]; simp, k2, k1, by simpa using h5, h6, by rw [k3]; exact h7, fun j hj => ?_⟩
        simp only [List.length_set] at hj
        by_cases hji : j = i.toNat
        · subst hji
          have : (xs.set i.toNat z)[i.toNat]'(by simpa using hi) = z := List.getElem_set_self _
          rw [this]
          exact k5
        · have he : (xs.set i.toNat z)[j]'(by simpa using hj) = xs[j] := List.getElem_set_ne (fun e => hji e.symm) _
          rw [he]
          have hd : (j * t.sz + t.sz ≤ i.toNat * t.sz) ∨ (i.toNat * t.sz + t.sz ≤ j * t.sz) := by
            rcases Nat.lt_or_gt_of_ne hji with h | h
            · left
              calc j * t.sz + t.sz = (j + 1) * t.sz := by rw [Nat.add_mul, Nat.one_mul]
                _ ≤ i.toNat * t.sz := Nat.mul_le_mul_right _ h
            · right
              calc i.toNat * t.sz + t.sz = (i.toNat + 1) * t.sz := by rw [Nat.add_mul, Nat.one_mul]
                _ ≤ j * t.sz := Nat.mul_le_mul_right _ h
          rw [take_drop_same (cur := cur2) (fun i' h1 h2 => k4 i' (by omega))]
          exact Own.sib hu hr1 (by omega) (h8 j hj)
    · exact hr.elim
  | .idx _ _ :: p, 0, .slice _ _, _, _, _, _, _, _, _, _, _, _, _, _, _, _, hr, _ => by simp only [getP] at hr; exact hr.elim
  | .fld _ _ :: p, _, .int _, _, _, _, _, _, _, _, _, _, _, _, _, _, _, hr, _ => by simp only [getP] at hr; exact hr.elim
  | .fld _ _ :: p, _, .bool, _, _, _, _, _, _, _, _, _, _, _, _, _, _, hr, _ => by simp only [getP] at hr; exact hr.elim
  | .fld _ _ :: p, _, .str, _, _, _, _, _, _, _, _, _, _, _, _, _, _, hr, _ => by simp only [getP] at hr; exact hr.elim
  | .fld _ _ :: p, _, .raw _, _, _, _, _, _, _, _, _, _, _, _, _, _, _, hr, _ => by simp only [getP] at hr; exact hr.elim
  | .fld _ _ :: p, _, .unit, _, _, _, _, _, _, _, _, _, _, _, _, _, _, hr, _ => by simp only [getP] at hr; exact hr.elim
  | .fld _ _ :: p, _, .pair _ _, _, _, _, _, _, _, _, _, _, _, _, _, _, _, hr, _ => by simp only [getP] at hr; exact hr.elim
  | .fld _ _ :: p, _, .slice _ _, _, _, _, _, _, _, _, _, _, _, _, _, _, _, hr, _ => by simp only [getP] at hr; exact hr.elim
  | .idx _ _ :: p, _, .int _, _, _, _, _, _, _, _, _, _, _, _, _, _, _, hr, _ => by simp only [getP] at hr; exact hr.elim
  | .idx _ _ :: p, _, .bool, _, _, _, _, _, _, _, _, _, _, _, _, _, _, hr, _ => by simp only [getP] at hr; exact hr.elim
  | .idx _ _ :: p, _, .str, _, _, _, _, _, _, _, _, _, _, _, _, _, _, hr, _ => by simp only [getP] at hr; exact hr.elim
  | .idx _ _ :: p, _, .raw _, _, _, _, _, _, _, _, _, _, _, _, _, _, _, hr, _ => by simp only [getP] at hr; exact hr.elim
  | .idx _ _ :: p, _, .unit, _, _, _, _, _, _, _, _, _, _, _, _, _, _, hr, _ => by simp only [getP] at hr; exact hr.elim
  | .idx _ _ :: p, _, .pair _ _, _, _, _, _, _, _, _, _, _, _, _, _, _, _, hr, _ => by simp only [getP] at hr; exact hr.elim
  | .idx _ _ :: p, _, .agg _, _, _, _, _, _, _, _, _, _, _, _, _, _, _, hr, _ => by simp only [getP] at hr; exact hr.elim
  where
  modC_runs {f : (t1 : Ty) → t1.den → M t1.den} : {i : Nat} → {t : Ty} → {x x2 : t.den} → {o1 : Nat} → {t1 : Ty} → {x1 : t1.den} → {log : List Nat} →
      comp i t x = some (o1, ⟨t1, x1⟩) → (modC i t x f).Runs T x2 log → ∃ y1 log1, (f t1 x1).Runs T y1 log1
    | 0, .pair a b, x, x2, o1, t1, x1, log, hc, hm => by
      simp only [comp, Option.some.injEq, Prod.mk.injEq] at hc
      obtain ⟨rfl, hc⟩ := hc
      cases hc
      obtain ⟨y, l1, l2, rfl, hm1, hm2⟩ := M.runs_bind hm
      exact ⟨_, _, hm1⟩
    | i + 1, .pair a b, x, x2, o1, t1, x1, log, hc, hm => by
      simp only [comp, Option.map_eq_some_iff] at hc
      obtain ⟨⟨o2, t2, x2'⟩, hc, he⟩ := hc
      simp only [Prod.mk.injEq] at he
      obtain ⟨rfl, he⟩ := he
      cases he
      obtain ⟨y, l1, l2, rfl, hm1, hm2⟩ := M.runs_bind hm
      exact modC_runs hc hm1
    | 0, .int _, x, x2, o1, t1, x1, log, hc, hm => by simp only [comp, Option.some.injEq, Prod.mk.injEq] at hc; obtain ⟨rfl, hc⟩ := hc; cases hc; exact ⟨_, _, hm⟩
    | 0, .bool, x, x2, o1, t1, x1, log, hc, hm => by simp only [comp, Option.some.injEq, Prod.mk.injEq] at hc; obtain ⟨rfl, hc⟩ := hc; cases hc; exact ⟨_, _, hm⟩
    | 0, .str, x, x2, o1, t1, x1, log, hc, hm => by simp only [comp, Option.some.injEq, Prod.mk.injEq] at hc; obtain ⟨rfl, hc⟩ := hc; cases hc; exact ⟨_, _, hm⟩
    | 0, .raw _, x, x2, o1, t1, x1, log, hc, hm => by simp only [comp, Option.some.injEq, Prod.mk.injEq] at hc; obtain ⟨rfl, hc⟩ := hc; cases hc; exact ⟨_, _, hm⟩
    | 0, .unit, x, x2, o1, t1, x1, log, hc, hm => by simp only [comp, Option.some.injEq, Prod.mk.injEq] at hc; obtain ⟨rfl, hc⟩ := hc; cases hc; exact ⟨_, _, hm⟩
    | 0, .agg _, x, x2, o1, t1, x1, log, hc, hm => by simp only [comp, Option.some.injEq, Prod.mk.injEq] at hc; obtain ⟨rfl, hc⟩ := hc; cases hc; exact ⟨_, _, hm⟩
    | 0, .slice _ _, x, x2, o1, t1, x1, log, hc, hm => by simp only [comp, Option.some.injEq, Prod.mk.injEq] at hc; obtain ⟨rfl, hc⟩ := hc; cases hc; exact ⟨_, _, hm⟩
end
end Go.Proofs.Ytdfcejijcnhcaaa.C.Am
