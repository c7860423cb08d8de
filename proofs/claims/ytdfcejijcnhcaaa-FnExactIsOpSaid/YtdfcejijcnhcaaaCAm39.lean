/- A part of the proof: Am39. No conditions. -/
import Derived.Test.YtdfcejijcnhcaaaCAm38
set_option linter.unusedVariables false
set_option linter.unusedSimpArgs false
namespace Go.Proofs.Ytdfcejijcnhcaaa.C.Am

/-! ## 39. append, in one step -/
section
variable {P : Program} {C : Ctx} {w w' w0 : World} {S S' : Nat → Prop} {L L' L0 : Nat → Lab} {s N : Nat} {vs : List Nat} {T T' : List V} {tm tm' : Array Value} {a : Act}

theorem step_append (hI : Inv w0 L0 N vs T a w L) (hC : CtxOk P C) {o : Oper} {X X2 : TypeId} {sO xO : Operand} {d : Nat} {ups : List (Nat × V)} {log : List Nat}
    (ho : o.op = .call { callee := .builtin .append, args := #[sO, xO], argTypes := #[X, X2] }) (hdst : o.dst = some d) (hd : d < N) (hid : (T.getD d .dead).idle = true)
    (h : (appUps C vs d X X2 sO xO).Runs T ups log) : Step P o w0 L0 N vs (setAll T ups) a w := by
  unfold appUps at h
  split at h
  · rename_i e t hX
    split at h
    · rename_i e2 t2 hX2
      obtain ⟨b, l1, l2, rfl, h1, h⟩ := M.runs_bind h
      obtain ⟨c, l3, l4, rfl, h2, h⟩ := M.runs_bind h
      split at h
      · rename_i hcnd
        obtain ⟨hsz, hby, hss⟩ := hcnd
        obtain ⟨hg, rfl, _⟩ := h
        have hg := of_decide_eq_true hg
        obtain ⟨hu, he⟩ := (hC X _ hX).und
        obtain ⟨hu2, he2⟩ := (hC X2 _ hX2).und
        obtain ⟨i, z, i1, i2, i3, i4, i5⟩ := (hC e t he).info
        have hone : ∀ v ∈ t.zcells, v.oneCell' = true := Own.one (Own.zero (w := w) (L := L) (S := fun _ => True) (s := 0) (n := 0) (t := t) (q := []) (o := 0))
        have hcz := Form.cells i5 hone
        have hzs : z.cells.size = t.sz := by rw [← Array.length_toList, hcz, Ty.zcells_len]
        obtain ⟨so, hso, hbo⟩ := baseM_rep hI h1 d
        obtain ⟨news, hsrc, hsx, hown⟩ := srcM_rep hI h2 hu2
        have hnl := hsrc.total
        have hmax : b.xs.length + c.ys.length ≤ 140737488355328 := Nat.le_trans (Nat.le_mul_of_pos_right _ (by omega)) hg
        have hml : b.xs.length + c.ys.length ≤ maxLen := by simp only [maxLen]; omega
        have hso' : (b.s = some so ∧ so ∉ vs ∧ (T.getD so .dead).owns = true) ∨ (b.s = none ∧ so = d) := hso.imp (fun h => ⟨h.1, h.2.1, h.2.2.1⟩) id
        have hne : ∀ s, c.s = some s → s ≠ so := by
          intro s hs
          rcases hso with ⟨hb, _⟩ | ⟨hb, rfl⟩
          · rintro rfl
            rw [hs, hb] at hss
            simp at hss
          · exact idle_ne hid (hsx s hs).2.1
        -- what the value is
        have fin : ∀ (kept : Bool) (nl : Nat → Lab) (w' : World) (g cap' : Nat) (cur' : Array Value) (olds : List Value),
            (Builtin.append_ #[X, X2] o.type #[a.eval sO, a.eval xO]).run P w = .ok (.slice (some ⟨g, 0, none⟩) (b.xs.length + c.ys.length) cap') w' →
            Wd w w' L nl (fun s => s = d ∨ s = so ∨ c.s = some s) → (∀ k s q, w.heap.size ≤ k → nl k = .own s q → s = d ∧ q = [0] ∧ k = w.heap.size ∧ kept = false) →
            newLab (appF d so c.s kept (b.xs.length * t.sz) (c.ys.length * t.sz) (appDep b.n c.n)) w L nl g = .own d [0] →
            w'.heap[g]? = some (.cells cur' e (0, 0)) → b.xs.length + c.ys.length ≤ cap' → cap' ≤ maxLen → cur'.size = cap' * t.sz →
            (∀ k, L k ≠ .free → L k ≠ .own so [0] → w'.heap[k]? = w.heap[k]?) →
            (∀ i, i < b.xs.length * t.sz → cur'[i]? = olds[i]?) → (∀ i, i < c.ys.length * t.sz → cur'[b.xs.length * t.sz + i]? = news[i]?) →
            (∀ (L' : Nat → Lab) (w' : World) (m : Nat), m ≤ b.n → (∀ k, L k = .stable → L' k = .stable ∧ w'.heap[k]? = w.heap[k]?) →
              (∀ k y rest, y < b.xs.length * t.sz → L k = .own so (0 :: y :: rest) → w'.heap[k]? = w.heap[k]? ∧ (rest.length < m → L' k = .own d (0 :: y :: rest)) ∧ (m ≤ rest.length → L' k = .stable)) →
              ∀ j (h : j < b.xs.length), Own w' L' (SL L' none) d m t (b.xs[j]) [0] (j * t.sz) ((olds.drop (j * t.sz)).take t.sz)) →
            Step P o w0 L0 N vs (setAll T ((b.s.toList ++ c.s.toList).map (fun s => (s, V.dead)) ++ [(d, .d none (appDep b.n c.n + 1) (.slice e t) (b.xs ++ c.ys))])) a w := by
          intro kept nl w' g cap' cur' olds hrun hw hnl' hLg hg' hcap hcapm hcur hold hc1 hc2 hbel
          have hexec : (execOp a.eval o).run P w = .ok (.value (.slice (some ⟨g, 0, none⟩) (b.xs.length + c.ys.length) cap')) w' := by
            simp [execOp, ho, resolve, invoke, builtin, hrun]
          refine Step.value hdst hexec (Inv.app (b1 := b.xs.length * t.sz) (b2 := c.ys.length * t.sz) (m := appDep b.n c.n) hI hd hid hso' (fun s hs => ⟨(hsx s hs).1, (hsx s hs).2.1⟩) hw hnl' rfl (by simp [V.owns, Ty.depth]) (fun T' tm' => ?_))
          refine ⟨by simp, _, rfl, ?_⟩
          simp only [Own]
          refine .inr ⟨g, cap', cur', by rw [List.length_append], by simpa using hLg, hg', by rw [List.length_append]; exact hcap, hcapm, hcur, fun j hj => ?_⟩
          have hst : ∀ k, L k = .stable → newLab (appF d so c.s kept (b.xs.length * t.sz) (c.ys.length * t.sz) (appDep b.n c.n)) w L nl k = .stable ∧ w'.heap[k]? = w.heap[k]? :=
            fun k hk => ⟨newLab_stable hI hk, hold k (by rw [hk]; simp) (by rw [hk]; simp)⟩
          by_cases hj1 : j < b.xs.length
          · rw [List.getElem_append_left hj1]
            have hwin : (cur'.toList.drop (j * t.sz)).take t.sz = (olds.drop (j * t.sz)).take t.sz := win fun k hk => by
              have : (j + 1) * t.sz ≤ b.xs.length * t.sz := Nat.mul_le_mul_right _ (by omega)
              rw [Nat.add_mul, Nat.one_mul] at this
              rw [Array.getElem?_toList]
              exact hc1 _ (by omega)
            rw [hwin]
            refine hbel _ w' _ appDep_le.1 hst (fun k y rest hy hk => ?_) j hj1
            have hlab : newLab (appF d so c.s kept (b.xs.length * t.sz) (c.ys.length * t.sz) (appDep b.n c.n)) w L nl k = if rest.length < appDep b.n c.n then .own d (0 :: y :: rest) else .stable := by
              rw [newLab_old hI (by rw [hk]; simp), hk]
              simp [relab, appF, hy]
            refine ⟨hold k (by rw [hk]; simp) (by rw [hk]; simp), fun h => ?_, fun h => ?_⟩
            · rw [hlab, if_pos h]
            · rw [hlab, if_neg (by omega)]
          · rw [List.getElem_append_right (by omega)]
            have hj2 : j - b.xs.length < c.ys.length := by rw [List.length_append] at hj; omega
            have hjm : j * t.sz = b.xs.length * t.sz + (j - b.xs.length) * t.sz := by rw [← Nat.add_mul]; congr 1; omega
            have hwin : (cur'.toList.drop (j * t.sz)).take t.sz = (news.drop ((j - b.xs.length) * t.sz)).take t.sz := win fun k hk => by
              have : (j - b.xs.length + 1) * t.sz ≤ c.ys.length * t.sz := Nat.mul_le_mul_right _ (by omega)
              rw [Nat.add_mul, Nat.one_mul] at this
              rw [Array.getElem?_toList, hjm, Nat.add_assoc]
              exact hc2 _ (by omega)
            rw [hwin, hjm]
            refine hown _ w' d (b.xs.length * t.sz) _ (fun k hk => appDep_le.2 k hk) hst (fun s k y rest hs hy hk => ?_) _ hj2
            have hlab : newLab (appF d so c.s kept (b.xs.length * t.sz) (c.ys.length * t.sz) (appDep b.n c.n)) w L nl k = if rest.length < appDep b.n c.n then .own d (0 :: (b.xs.length * t.sz + y) :: rest) else .stable := by
              rw [newLab_old hI (by rw [hk]; simp), hk]
              simp [relab, appF, hne s hs, hs, hy]
            refine ⟨hold k (by rw [hk]; simp) (by rw [hk]; simp), fun h => ?_, fun h => ?_⟩
            · rw [hlab, if_pos h]
            · rw [hlab, if_neg (by omega)]
        -- a new row
        have grow : ∀ (bs : Option Addr) (sc : Nat) (olds : List Value), a.eval sO = .slice bs b.xs.length sc → sc < b.xs.length + c.ys.length → olds.length = b.xs.length * t.sz →
            (Builtin.firstCells i.size b.xs.length (.slice bs b.xs.length sc)).run P w.drew = .ok olds.toArray w.drew →
            (∀ (L' : Nat → Lab) (w' : World) (m : Nat), m ≤ b.n → (∀ k, L k = .stable → L' k = .stable ∧ w'.heap[k]? = w.heap[k]?) →
              (∀ k y rest, y < b.xs.length * t.sz → L k = .own so (0 :: y :: rest) → w'.heap[k]? = w.heap[k]? ∧ (rest.length < m → L' k = .own d (0 :: y :: rest)) ∧ (m ≤ rest.length → L' k = .stable)) →
              ∀ j (h : j < b.xs.length), Own w' L' (SL L' none) d m t (b.xs[j]) [0] (j * t.sz) ((olds.drop (j * t.sz)).take t.sz)) →
            Step P o w0 L0 N vs (setAll T ((b.s.toList ++ c.s.toList).map (fun s => (s, V.dead)) ++ [(d, .d none (appDep b.n c.n + 1) (.slice e t) (b.xs ++ c.ys))])) a w := by
          intro bs sc olds hev hlt hol hfirst hbel
          have hrun := append_grow (P := P) (w := w) (ty := o.type) (X2 := X2) hu i1 i4 hfirst (by rw [i2]; exact hsrc) hlt hml (by rw [i3]; exact hg)
          rw [← hev] at hrun
          have hge := grownCap_ge w (b.xs.length + c.ys.length) sc e
          have hcm := grownCap_le_maxLen w (b.xs.length + c.ys.length) sc e hml
          have hL1 : (olds ++ news).length = (b.xs.length + c.ys.length) * t.sz := by rw [List.length_append, hol, hnl, Nat.add_mul]
          refine fin false (fun k => if k = w.heap.size then .own d [0] else .free) _ w.heap.size _ _ olds hrun ?_ ?_ ?_ (heap_new w.drew _) hge hcm ?_ ?_ ?_ ?_ hbel
          · refine ⟨rfl, rfl, rfl, by simp, fun k hk _ => Go.RowKit.Below.heap_alloc w.drew _ k hk, fun k hk => ?_, fun k s q hk h => ?_⟩
            · simp at hk
              rw [if_neg (by omega)]
            · split at h
              · injection h with h _; exact .inl h.symm
              · cases h
          · intro k s q hk h
            split at h
            · injection h with h1 h2; exact ⟨h1.symm, h2.symm, by assumption, rfl⟩
            · cases h
          · unfold newLab
            rw [if_neg (by omega)]
            simp
          · rw [Array.size_append, List.size_toArray, hL1, size_zeroCells, hzs, ← Nat.add_mul]
            congr 1
            omega
          · exact fun k hk _ => Go.RowKit.Below.heap_alloc w.drew _ k (hI.lt hk)
          · intro k hk
            rw [Array.getElem?_append_left (by simp only [List.size_toArray]; rw [List.length_append]; omega), List.getElem?_toArray, List.getElem?_append_left (by omega)]
          · intro k hk
            rw [Array.getElem?_append_left (by simp only [List.size_toArray]; rw [List.length_append]; omega), List.getElem?_toArray, List.getElem?_append_right (by omega), hol]
            congr 1
            omega
        simp only [Own] at hbo
        rcases hbo with ⟨hnil, hxs⟩ | ⟨g, cap, cur, hcs, hL, hgc, h5, h6, h7, h8⟩
        · have hnil : a.eval sO = _ := (List.cons.inj hnil).1
          by_cases hy : c.ys = []
          · have hsrc0 : AppSrc P i.size X2 (a.eval xO) 0 [] w := by
              rw [hy] at hsrc hnl
              have : news = [] := List.eq_nil_of_length_eq_zero (by simpa using hnl)
              rw [this] at hsrc
              rw [i2]
              exact hsrc
            have hrun := append_none (P := P) (ty := o.type) hu i1 hsrc0
            rw [← hnil] at hrun
            have hexec : (execOp a.eval o).run P w = .ok (.value (a.eval sO)) w := by
              simp [execOp, ho, resolve, invoke, builtin, hrun]
            refine Step.value hdst hexec (Inv.app (kept := false) (b1 := 0) (b2 := 0) (m := 0) (nl := fun _ => .free) hI hd hid hso' (fun s hs => ⟨(hsx s hs).1, (hsx s hs).2.1⟩) (Wd.refl hI _) (fun k s q _ h => by cases h) rfl (by simp [V.owns, Ty.depth]) (fun T' tm' => ?_))
            refine ⟨by simp, _, rfl, ?_⟩
            simp only [Own]
            exact .inl ⟨by rw [hnil], by rw [hxs, hy]; rfl⟩
          · have hpos : 0 < c.ys.length := List.length_pos_iff.2 hy
            have h0 : b.xs.length = 0 := by rw [hxs]; rfl
            refine grow none 0 [] (by rw [h0]; exact hnil) (by omega) (by rw [h0]; simp) ?_ (fun L' w' m _ _ _ j hj => absurd hj (by omega))
            rw [h0]
            exact run_firstCells_none w.drew i.size 0 0 0
        · have hcs : a.eval sO = _ := (List.cons.inj hcs).1
          have hL : L g = .own so [0] := by simpa using hL
          have hle : b.xs.length * t.sz ≤ cur.size := by rw [h7]; exact Nat.mul_le_mul_right _ h5
          have hbel : ∀ (L' : Nat → Lab) (w' : World) (m : Nat), m ≤ b.n → (∀ k, L k = .stable → L' k = .stable ∧ w'.heap[k]? = w.heap[k]?) →
              (∀ k y rest, y < b.xs.length * t.sz → L k = .own so (0 :: y :: rest) → w'.heap[k]? = w.heap[k]? ∧ (rest.length < m → L' k = .own d (0 :: y :: rest)) ∧ (m ≤ rest.length → L' k = .stable)) →
              ∀ j (h : j < b.xs.length), Own w' L' (SL L' none) d m t (b.xs[j]) [0] (j * t.sz) (((cur.toList.take (b.xs.length * t.sz)).drop (j * t.sz)).take t.sz) := by
            intro L' w' m hm hst hlab j hj
            have hjb : j * t.sz + t.sz ≤ b.xs.length * t.sz := by
              have : (j + 1) * t.sz ≤ b.xs.length * t.sz := Nat.mul_le_mul_right _ (by omega)
              rwa [Nat.add_mul, Nat.one_mul] at this
            have hw : ((cur.toList.take (b.xs.length * t.sz)).drop (j * t.sz)).take t.sz = (cur.toList.drop (j * t.sz)).take t.sz := win fun k hk => by
              rw [List.getElem?_take, if_pos (by omega)]
            rw [hw]
            refine Own.moveLow hm (fun k hk => ?_) (fun k y rest hy hk => ?_) (h8 j hj)
            · rcases hk with hk | ⟨_, _, hk, _⟩
              · exact ⟨.inl (hst k hk).1, (hst k hk).2⟩
              · cases hk
            · have hk' : L k = .own so (0 :: (j * t.sz + y) :: rest) := by simpa using hk
              have := hlab k (j * t.sz + y) rest (by omega) hk'
              exact ⟨this.1, fun h => by simpa using this.2.1 h, fun h => .inl (this.2.2 h)⟩
          by_cases hroom : b.xs.length + c.ys.length ≤ cap
          · -- there is room
            have hfit : b.xs.length * t.sz + news.length ≤ cur.size := by
              rw [hnl, ← Nat.add_mul, h7]
              exact Nat.mul_le_mul_right _ hroom
            obtain ⟨s1, s2, s3, s4, s5, cur', s6, s7, s8⟩ := setCells_spec news (b.xs.length * t.sz) w cur e hgc hfit
            have hcell : ∀ j, j < news.length → w.cell? ⟨g, b.xs.length * i.size + j, none⟩ = cur[b.xs.length * t.sz + j]? := by
              intro j hj
              simp [World.cell?, hgc, i2]
            have hrun := append_room (P := P) (w := w) (ty := o.type) (X2 := X2) (g := g) hu i1 (by rw [i2]; exact hsrc) hroom
              (fun j hj => by rw [hcell j hj, Array.getElem?_eq_getElem (by omega)]; rfl) (fun j hj => by simp [World.frozen?, hgc])
            rw [← hcs, i2] at hrun
            have hnd : g < w.heap.size := hI.lt (by rw [hL]; simp)
            refine fin true (fun _ => .free) _ g cap cur' (cur.toList.take (b.xs.length * t.sz)) hrun ?_ (fun k s q _ h => by cases h) ?_ s6 hroom h6 (by rw [s7, h7]) ?_ ?_ ?_ hbel
            · refine ⟨s1, s2, s3, by rw [s4]; exact Nat.le_refl _, fun k hk h => ?_, fun k _ => rfl, fun k s q _ h => by cases h⟩
              exact s5 k (fun e => by subst e; exact h so [0] hL (.inr (.inl rfl)))
            · rw [newLab_old hI (by rw [hL]; simp), hL]
              simp [relab, appF]
            · intro k hk hk2
              exact s5 k (fun e => by subst e; exact hk2 hL)
            · intro k hk
              rw [s8, if_neg (by omega), List.getElem?_take, if_pos hk, Array.getElem?_toList]
            · intro k hk
              rw [s8, if_pos (by omega)]
              congr 1
              omega
          · -- there is none
            have hlen : (cur.toList.take (b.xs.length * t.sz)).length = b.xs.length * t.sz := by rw [List.length_take]; simp; omega
            refine grow (some ⟨g, 0, none⟩) cap _ hcs (by omega) hlen ?_ hbel
            refine run_firstCells_some w.drew i.size b.xs.length ⟨g, 0, none⟩ b.xs.length cap _ (by rw [hlen, i2]) (fun j u hu => ?_)
            rw [List.getElem?_take] at hu
            split at hu
            · show w.cell? _ = _
              rw [show (⟨g, 0, none⟩ : Addr).add j = ⟨g, j, none⟩ by rw [Addr.add_lit, Nat.zero_add]]
              simp only [World.cell?, hgc]
              simpa using hu
            · cases hu
      · exact h.elim
    · exact h.elim
  · exact h.elim

end
end Go.Proofs.Ytdfcejijcnhcaaa.C.Am
