/- A part of the proof: Am34. No conditions. -/
import Derived.Test.YtdfcejijcnhcaaaCAm33
set_option linter.unusedVariables false
set_option linter.unusedSimpArgs false
namespace Go.Proofs.Ytdfcejijcnhcaaa.C.Am

/-! ## 34. What was read is read again -/
theorem mapM_congr {α β : Type} {f g : α → Option β} : {l : List α} → {ys : List β} → l.mapM f = some ys → (∀ a y, f a = some y → y ∈ ys → g a = some y) → l.mapM g = some ys
  | [], ys, h, _ => by simpa using h
  | a :: l, ys, h, H => by
    simp only [List.mapM_cons, Option.bind_eq_bind, Option.bind_eq_some_iff, Option.pure_def, Option.some.injEq] at h
    obtain ⟨y, hy, ys', hys, rfl⟩ := h
    have h1 := H a y hy (by simp)
    have h2 := mapM_congr hys (fun a y ha hm => H a y ha (by simp [hm]))
    simp [h1, h2]

section
variable {H : Type} {enc : TypeId × Value → H} {P : Program} {C : Ctx} {w w' : World} {base : Nat} {sp : Nat → Bool} {held : Bool}

theorem cells_again (hH : ∀ k, k < w.heap.size → w'.heap[k]? = w.heap[k]?) {a : Addr} {n : Nat} {es : List Value} (h : w.cells? base a n = some es) : w'.cells? base a n = some es := by
  unfold World.cells? at h ⊢
  split at h
  · rename_i hb
    rw [if_pos hb]
    refine mapM_congr h (fun i v hv _ => ?_)
    have := (cell_lt hv).1
    rw [World.cell?_of_block (hH _ this)]
    exact hv
  · cases h

theorem row_mem {a : Addr} {n i : Nat} (h : i < n) : ∃ p ∈ MemPlace.row a n, p.block = a.block := by
  unfold MemPlace.row
  exact ⟨_, List.mem_map.2 ⟨i, by simpa using h, rfl⟩, by simp [MemPlace.block]⟩

theorem trod_slice2 {fuel : Nat} {X e : TypeId} {a : Addr} {len cap : Nat} {r : DataW H × List MemPlace} {sp : Nat → Bool} (hu : P.underlying X = some (.slice e)) (h : DataW.trod enc P w base sp held (fuel + 1) X [.slice (some a) len cap] = some r) :
    (base ≤ a.block ∧ len ≤ cap ∧ cap ≤ maxLen) ∧ ∃ elems rest, (List.range len).mapM (fun i => (w.cells? base (a.add (i * P.cellsOf e)) (P.cellsOf e)).bind (DataW.trod enc P w base sp held fuel e)) = some elems ∧
      (if sp a.block = true then (List.range (cap - len)).mapM (fun j => (w.cells? base (a.add ((len + j) * P.cellsOf e)) (P.cellsOf e)).bind (DataW.trod enc P w base sp held fuel e)) else some []) = some rest ∧
      r = (.slice (elems.map (·.1)) (rest.map (·.1)), MemPlace.row a ((elems.length + rest.length) * P.cellsOf e) ++ (elems ++ rest).flatMap (·.2)) := by
  simp only [DataW.trod, hu] at h
  split at h
  · rename_i hc
    obtain ⟨elems, h1, h2⟩ := Option.bind_eq_some_iff.1 h
    obtain ⟨rest, h3, h4⟩ := Option.map_eq_some_iff.1 h2
    exact ⟨hc, elems, rest, h1, h3, h4.symm⟩
  · cases h

theorem trod_again (hC : CtxOk P C) (hH : ∀ k, k < w.heap.size → w'.heap[k]? = w.heap[k]?) : ∀ (fuel : Nat) (t : Ty) (X : TypeId) (cs : List Value) (r : DataW H × List MemPlace), C.ty X = some t → t.flat = true →
    DataW.trod enc P w base (fun _ => true) held fuel X cs = some r → (∀ p ∈ r.2, sp p.block = true) → DataW.trod enc P w' base sp held fuel X cs = some r := by
  intro fuel
  induction fuel with
  | zero => intro t X cs r _ _ h; simp [DataW.trod] at h
  | succ fuel ih =>
    intro t X cs r hX hf h hs
    have hu := (hC X t hX).und
    cases t with
    | int k =>
      simp only [DataW.trod, hu] at h ⊢
      rcases cs with _ | ⟨c, _ | ⟨c2, cs⟩⟩
      · simp at h
      · cases c <;> simp at h ⊢ <;> exact h
      · simp at h
    | bool =>
      simp only [DataW.trod, hu] at h ⊢
      rcases cs with _ | ⟨c, _ | ⟨c2, cs⟩⟩
      · simp at h
      · cases c <;> simp at h ⊢ <;> exact h
      · simp at h
    | str =>
      simp only [DataW.trod, hu] at h ⊢
      rcases cs with _ | ⟨c, _ | ⟨c2, cs⟩⟩
      · simp at h
      · cases c <;> simp at h ⊢ <;> exact h
      · simp at h
    | raw z => simp [Ty.flat] at hf
    | unit => simp [Ty.flat] at hf
    | pair a b => exact hu.elim
    | slice e te =>
      obtain ⟨hu, he⟩ := hu
      have hfe : te.flat = true := hf
      have hce : P.cellsOf e = te.sz := by
        obtain ⟨inf', z', hi1', hi2', _⟩ := (hC e te he).info
        simp [Program.cellsOf, hi1', hi2']
      have hpos := flat_pos hfe
      rcases trod_slice hu h with rfl | ⟨a, len, cap, _, rfl, _, _, _⟩
      · simp only [DataW.trod, hu] at h ⊢
        simpa using h
      · obtain ⟨hc, elems, rest, h1, h2, rfl⟩ := trod_slice2 hu h
        rw [if_pos rfl] at h2
        have hstep : ∀ (i : Nat) (y : DataW H × List MemPlace), ((w.cells? base (a.add (i * P.cellsOf e)) (P.cellsOf e)).bind (DataW.trod enc P w base (fun _ => true) held fuel e)) = some y → (∀ p ∈ y.2, sp p.block = true) →
            ((w'.cells? base (a.add (i * P.cellsOf e)) (P.cellsOf e)).bind (DataW.trod enc P w' base sp held fuel e)) = some y := by
          intro i y hy hp
          obtain ⟨es, hes, hy⟩ := Option.bind_eq_some_iff.1 hy
          rw [cells_again hH hes]
          exact ih te e es y he hfe hy hp
        have hmem : ∀ y, (y ∈ elems ∨ y ∈ rest) → ∀ p ∈ y.2, sp p.block = true := fun y hy p hp => hs p (by
          simp only [List.mem_append, List.mem_flatMap]
          exact .inr ⟨y, hy, hp⟩)
        have g1 := mapM_congr h1 (fun i y hy hm => hstep i y hy (hmem y (.inl hm)))
        have g2 := mapM_congr h2 (fun j y hy hm => hstep (len + j) y hy (hmem y (.inr hm)))
        simp only [DataW.trod, hu]
        rw [if_pos hc, g1, Option.bind_some]
        by_cases hsp : sp a.block = true
        · rw [if_pos hsp, g2]; rfl
        · have hz : elems.length + rest.length = 0 := by
            apply Classical.byContradiction
            intro hne
            have : 0 < (elems.length + rest.length) * P.cellsOf e := by rw [hce]; exact Nat.mul_pos (by omega) hpos
            obtain ⟨p, hp, hb⟩ := row_mem (a := a) this
            exact hsp (by rw [← hb]; exact hs p (List.mem_append_left _ hp))
          have : rest = [] := List.eq_nil_of_length_eq_zero (by omega)
          subst this
          rw [if_neg hsp]; rfl
    | agg t' =>
      obtain ⟨⟨fs, hu, hfo, hfn⟩, _⟩ := hu
      simp only [DataW.trod, hu] at h ⊢
      split at h
      · rename_i hl
        rw [if_pos hl]
        obtain ⟨xs, hxs, rfl⟩ := Option.map_eq_some_iff.1 h
        have hft : t'.flat = true := hf
        have : fs.toList.mapM (fun f => DataW.trod enc P w' base sp held fuel f.type ((cs.drop f.offset).take (P.cellsOf f.type))) = some xs := by
          have gen : ∀ (l : List Field) (xs : List (DataW H × List MemPlace)), (∀ f ∈ l, f ∈ fs.toList) → l.mapM (fun f => DataW.trod enc P w base (fun _ => true) held fuel f.type ((cs.drop f.offset).take (P.cellsOf f.type))) = some xs → (∀ y ∈ xs, ∀ p ∈ y.2, sp p.block = true) →
              l.mapM (fun f => DataW.trod enc P w' base sp held fuel f.type ((cs.drop f.offset).take (P.cellsOf f.type))) = some xs := by
            intro l
            induction l with
            | nil => intro xs _ h _; simpa using h
            | cons f l ihl =>
              intro xs hsub h hp
              simp only [List.mapM_cons, Option.bind_eq_bind, Option.bind_eq_some_iff, Option.pure_def, Option.some.injEq] at h
              obtain ⟨y, hy, ys', hys, rfl⟩ := h
              obtain ⟨j, hj⟩ := List.mem_iff_getElem?.1 (hsub f (by simp))
              obtain ⟨t1, e1, e2, _⟩ := hfo j f (by simpa using hj)
              have g1 := ih t1 _ _ y e2 (flat_comp e1 hft) hy (hp y (by simp))
              have g2 := ihl ys' (fun f hf => hsub f (by simp [hf])) hys (fun z hz => hp z (by simp [hz]))
              simp [g1, g2]
          exact gen _ _ (fun _ h => h) hxs (fun y hy p hp => hs p (by
            simp only [List.mem_flatMap]
            exact ⟨y, hy, hp⟩))
        rw [this]; rfl
      · cases h

end
end Go.Proofs.Ytdfcejijcnhcaaa.C.Am
