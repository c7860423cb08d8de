/- A part of the proof: Am43. No conditions. -/
import Derived.Test.YtdfcejijcnhcaaaCAm42
set_option linter.unusedVariables false
set_option linter.unusedSimpArgs false
namespace Go.Proofs.Ytdfcejijcnhcaaa.C.Am

/-! ## 43. A hole is filled -/
def stEq : List St → List St → Bool
  | [], [] => true
  | .fld i o :: p, .fld i' o' :: p' => i == i' && o == o' && stEq p p'
  | .idx s i :: p, .idx s' i' :: p' => s == s' && i == i' && stEq p p'
  | _, _ => false

theorem stEq_eq : {p p' : List St} → stEq p p' = true → p = p'
  | [], [], _ => rfl
  | .fld i o :: p, .fld i' o' :: p', h => by
    simp only [stEq, Bool.and_eq_true, beq_iff_eq] at h
    rw [h.1.1, h.1.2, stEq_eq h.2]
  | .idx s i :: p, .idx s' i' :: p', h => by
    simp only [stEq, Bool.and_eq_true, beq_iff_eq] at h
    rw [h.1.1, h.1.2, stEq_eq h.2]
  | [], .fld _ _ :: _, h | [], .idx _ _ :: _, h | .fld _ _ :: _, [], h | .idx _ _ :: _, [], h | .fld _ _ :: _, .idx _ _ :: _, h | .idx _ _ :: _, .fld _ _ :: _, h => by simp [stEq] at h

def fillM (C : Ctx) (vs : List Nat) (N : Nat) (kids : List Nat) (X : TypeId) (r : Nat) (p : List St) (u : V) (p' : List St) (x : Operand) : M (List (Nat × V)) :=
  match x with
  | .tmp s => if stEq p p' = true ∧ vs.contains s = false ∧ s ≠ r ∧ r < N then
      .get s fun v => match v with
      | .d none k (.slice e te) y => (rootD p u).bind fun z =>
        if h : z.2.t = .slice e te then
          if C.ty X = some (.slice e te) ∧ (z.2.n ≤ k ∨ te.depth + 1 ≤ k) ∧ z.2.n ≠ 0 ∧ z.1 = none ∧ u.boxy = true then
            (modRoot p u (.slice e te) y).bind fun u2 => bareM false r s kids (.ret [(r, u2), (s, .dead)])
          else .fail
        else .fail
      | _ => .fail
    else .fail
  | _ => .fail

/-- Programs that read no slot. -/
def M.calm {α : Type} : M α → Prop
  | .ret _ => True
  | .fail => True
  | .get _ _ => False
  | .bnd _ _ k => ∀ x, (k x).calm
  | .chk _ k => k.calm
  | .ask _ _ => False

theorem calm_runs {α : Type} {T T' : List V} : {m : M α} → {a : α} → {log : List Nat} → m.calm → m.Runs T a log → m.Runs T' a log
  | .ret _, _, _, _, h => h
  | .fail, _, _, _, h => h.elim
  | .get _ _, _, _, c, _ => c.elim
  | .bnd _ _ k, a, log, c, ⟨x, hx, h⟩ => ⟨x, hx, calm_runs (c x) h⟩
  | .chk _ k, a, log, c, ⟨hb, h⟩ => ⟨hb, calm_runs (m := k) c h⟩
  | .ask _ _, _, _, c, _ => c.elim

theorem calm_bind {α β : Type} {f : α → M β} (hf : ∀ a, (f a).calm) : {m : M α} → m.calm → (m.bind f).calm
  | .ret a, _ => hf a
  | .fail, _ => trivial
  | .get _ _, c => c.elim
  | .bnd _ _ k, c => fun x => calm_bind hf (c x)
  | .chk _ k, c => calm_bind (m := k) hf c
  | .ask _ _, c => c.elim

theorem getP_calm : (p : List St) → (n : Nat) → (t : Ty) → (x : t.den) → (getP p n t x).calm
  | [], _, _, _ => trivial
  | .fld i off :: p, n, .agg t, x => by
    simp only [getP]
    split
    · split
      · exact getP_calm _ _ _ _
      · trivial
    · trivial
  | .idx sz i :: p, n + 1, .slice _ t, x => by
    simp only [getP]
    split
    · exact fun y => getP_calm _ _ _ _
    · trivial
  | .idx _ _ :: p, 0, .slice _ _, _ => by simp only [getP]; trivial
  | .fld _ _ :: p, _, .int _, _ | .fld _ _ :: p, _, .bool, _ | .fld _ _ :: p, _, .str, _ | .fld _ _ :: p, _, .raw _, _ | .fld _ _ :: p, _, .unit, _ | .fld _ _ :: p, _, .pair _ _, _ | .fld _ _ :: p, _, .slice _ _, _ => by simp only [getP]; trivial
  | .idx _ _ :: p, _, .int _, _ | .idx _ _ :: p, _, .bool, _ | .idx _ _ :: p, _, .str, _ | .idx _ _ :: p, _, .raw _, _ | .idx _ _ :: p, _, .unit, _ | .idx _ _ :: p, _, .pair _ _, _ | .idx _ _ :: p, _, .agg _, _ => by simp only [getP]; trivial

theorem modC_calm {f : (t1 : Ty) → t1.den → M t1.den} (hf : ∀ t1 x1, (f t1 x1).calm) : (i : Nat) → (t : Ty) → (x : t.den) → (modC i t x f).calm
  | 0, .pair _ _, x => by simp only [modC]; refine calm_bind ?_ (hf _ _); intro _; trivial
  | i + 1, .pair _ b, x => by simp only [modC]; refine calm_bind ?_ (modC_calm hf i b x.2); intro _; trivial
  | 0, .int _, x | 0, .bool, x | 0, .str, x | 0, .raw _, x | 0, .unit, x | 0, .agg _, x | 0, .slice _ _, x => by simp only [modC]; exact hf _ _
  | _ + 1, .int _, x | _ + 1, .bool, x | _ + 1, .str, x | _ + 1, .raw _, x | _ + 1, .unit, x | _ + 1, .agg _, x | _ + 1, .slice _ _, x => by simp only [modC]; trivial

theorem modP_calm : (p : List St) → (t : Ty) → (x : t.den) → (t' : Ty) → (y : t'.den) → (modP p t x t' y).calm
  | [], t, x, t', y => by
    simp only [modP]
    split <;> trivial
  | .fld i off :: p, .agg t, x, t', y => by
    simp only [modP]
    split
    · split
      · exact modC_calm (fun t1 x1 => modP_calm p t1 x1 t' y) _ _ _
      · trivial
    · trivial
  | .idx sz i :: p, .slice _ t, x, t', y => by
    simp only [modP]
    split
    · intro z
      refine calm_bind ?_ (modP_calm p t z t' y)
      intro _; trivial
    · trivial
  | .fld _ _ :: p, .int _, _, _, _ | .fld _ _ :: p, .bool, _, _, _ | .fld _ _ :: p, .str, _, _, _ | .fld _ _ :: p, .raw _, _, _, _ | .fld _ _ :: p, .unit, _, _, _ | .fld _ _ :: p, .pair _ _, _, _, _ | .fld _ _ :: p, .slice _ _, _, _, _ => by simp only [modP]; trivial
  | .idx _ _ :: p, .int _, _, _, _ | .idx _ _ :: p, .bool, _, _, _ | .idx _ _ :: p, .str, _, _, _ | .idx _ _ :: p, .raw _, _, _, _ | .idx _ _ :: p, .unit, _, _, _ | .idx _ _ :: p, .pair _ _, _, _, _ | .idx _ _ :: p, .agg _, _, _, _ => by simp only [modP]; trivial

theorem rootD_calm {p : List St} (u : V) : (rootD p u).calm := by
  cases u with
  | box l n t x => refine calm_bind ?_ (getP_calm _ _ _ _); intro _; trivial
  | d l n t x =>
    simp only [rootD]
    split
    · (refine calm_bind ?_ (getP_calm _ _ _ _); intro _; trivial)
    · trivial
  | _ => trivial

theorem modRoot_calm {p : List St} {t : Ty} {y : t.den} (u : V) : (modRoot p u t y).calm := by
  cases u with
  | box l n t x => refine calm_bind ?_ (modP_calm _ _ _ _ _); intro _; trivial
  | d l n t x =>
    simp only [modRoot]
    split
    · (refine calm_bind ?_ (modP_calm _ _ _ _ _); intro _; trivial)
    · trivial
  | _ => trivial

section
variable {P : Program} {C : Ctx} {w w' w0 : World} {S S' : Nat → Prop} {L L' L0 : Nat → Lab} {s N : Nat} {vs : List Nat} {T T' : List V} {tm tm' : Array Value} {a : Act}

/-- With the hole filled by nothing, in a world of the mind. -/
theorem Inv.ghost (hI : Inv w0 L0 N vs T a w L) {r : Nat} {p : List St} {u : V} (hr : T.getD r .dead = .hole u p) (hu : u.boxy = true) (hrN : r < N) (hbare : ∀ z, (T.getD z .dead).deepOn r = false ∨ (T.getD z .dead).on r = false) :
    ∃ g cur e, L g = .own r (node [] 0 p).1 ∧ w.heap[g]? = some (.cells cur e (0, 0)) ∧ (node [] 0 p).2 < cur.size ∧ u.root = none ∧ Inv w0 L0 N vs (T.set r u) a (w.setCell ⟨g, (node [] 0 p).2, none⟩ (.slice none 0 0)) L := by
  have hs := hI.slots r
  rw [hr] at hs
  obtain ⟨h0, g, cur, e, h1, h2, h3, h4⟩ := hs
  refine ⟨g, cur, e, h1, h2, h3, h0, ?_⟩
  have hT : ∀ z, (T.set r u).getD z .dead = if z = r ∧ r < T.length then u else T.getD z .dead := fun z => getD_set _ _ _ _ _
  have hTr : (T.set r u).getD r .dead = u := by rw [hT, if_pos ⟨rfl, by rw [hI.len]; exact hrN⟩]
  have hown : u.owns = true := by cases u <;> simp [V.boxy, V.owns] at hu ⊢
  have hkeep : ∀ k, L k ≠ .own r (node [] 0 p).1 → (w.setCell ⟨g, (node [] 0 p).2, none⟩ (.slice none 0 0)).heap[k]? = w.heap[k]? := fun k hk => setCell_other (by rintro rfl; exact hk h1)
  refine Inv.upd (fun z => z = r ∨ (T.getD z .dead).on r = true) hI hI.size (by simp [hI.len]) hI.dfr ?_ (fun k hk => hI.free k (by simpa [World.setCell] using hk)) hI.inj ?_ ?_ ?_ ?_ ?_ ?_
  · refine ⟨hI.fr.os, hI.fr.tape, hI.fr.output, by simpa [World.setCell] using hI.fr.size, fun k hk h => ?_⟩
    obtain ⟨e1, e2⟩ := hI.fr.keep k hk h
    refine ⟨e1, ?_⟩
    rw [hkeep k (by rw [e1]; rcases h with h | h <;> rw [h] <;> simp), e2]
  · intro k z q hk
    rw [hT]
    split
    · exact hown
    · exact hI.owner k z q hk
  · intro z hz k hk
    refine ⟨rfl, hkeep k (fun he => ?_)⟩
    have hz := not_or.1 hz
    rcases hk with hk | ⟨r', q, hk, hr'⟩
    · rw [he] at hk; cases hk
    · rw [he] at hk
      injection hk with hk _
      subst hk
      rcases hr' with hr' | hr'
      · exact hz.1 hr'.symm
      · exact hz.2 hr'
  · intro z hz
    have hz := not_or.1 hz
    exact ⟨by rw [hT, if_neg (fun h => hz.1 h.1)], rfl⟩
  · intro z r' hon
    rw [hT] at hon
    split at hon
    · simp [V.on, h0] at hon
    · exact hI.roots z r' hon
  · intro z r' hz hon _
    have hz := not_or.1 hz
    refine ⟨by rw [hT, if_neg (fun h => hz.2 (by rw [← h.1]; exact hon))], rfl⟩
  · intro z hz
    by_cases hzr : z = r
    · subst hzr
      rw [hTr]
      exact SRep.keep (L' := L) (T' := T.set z u) (tm' := a.tmps) (fun k _ => ⟨rfl, rfl⟩) (fun r' hr' _ => by simp [V.on, h0] at hr') h4
    · have hon : (T.getD z .dead).on r = true := hz.resolve_left hzr
      rw [hT, if_neg (fun h => hzr h.1)]
      have hd := (hbare z).resolve_right (by rw [hon]; simp)
      unfold V.deepOn at hd
      rw [hon, Bool.true_and] at hd
      have hsz := hI.slots z
      generalize T.getD z .dead = v at hd hsz hon
      cases v with
      | ptr r2 p2 t2 => exact hsz
      | _ => simp at hd

theorem set_setCell {g o : Nat} {cur : Array Value} {e : TypeId} {v c : Value} (hg : w.heap[g]? = some (.cells cur e (0, 0))) (ho : o < cur.size) :
    (w.setCell ⟨g, o, none⟩ v).setRow g (putCells (cur.setIfInBounds o v) o [c]) = w.setRow g (putCells cur o [c]) := by
  have hp : putCells (cur.setIfInBounds o v) o [c] = putCells cur o [c] := by
    apply Array.ext_getElem?
    intro i
    by_cases hi : i = o
    · subst hi
      have e1 := putCells_at (cur := cur.setIfInBounds i v) (o := i) (cs := [c]) (by simp; omega)
      have e2 := putCells_at (cur := cur) (o := i) (cs := [c]) (by simp; omega)
      have e3 := e1.trans e2.symm
      have := congrArg (fun l => l[0]?) e3
      simpa [List.getElem?_take, List.getElem?_drop] using this
    · rw [putCells_out (by simp; omega) i (by simp; omega), putCells_out (by simp; omega) i (by simp; omega), Array.getElem?_setIfInBounds, if_neg (Ne.symm hi)]
  have hh : ((w.setCell ⟨g, o, none⟩ v).setRow g (putCells (cur.setIfInBounds o v) o [c])).heap = (w.setRow g (putCells cur o [c])).heap := by
    rw [hp]
    apply Array.ext_getElem?
    intro i
    by_cases hi : i = g
    · subst hi
      rw [setRow_heap _ i _ _ _ _ (setCell_block hg), setRow_heap _ i _ _ _ _ hg]
    · rw [setRow_other _ g i _ hi, setRow_other _ g i _ hi, setCell_other hi]
  calc (w.setCell ⟨g, o, none⟩ v).setRow g (putCells (cur.setIfInBounds o v) o [c])
      = { w.setRow g (putCells cur o [c]) with heap := ((w.setCell ⟨g, o, none⟩ v).setRow g (putCells (cur.setIfInBounds o v) o [c])).heap } := rfl
    _ = { w.setRow g (putCells cur o [c]) with heap := (w.setRow g (putCells cur o [c])).heap } := by rw [hh]
    _ = w.setRow g (putCells cur o [c]) := rfl

theorem step_fill (hI : Inv w0 L0 N vs T a w L) (hC : CtxOk P C) {o : Oper} {X : TypeId} {t r : Nat} {kids : List Nat} {p p' : List St} {u : V} {x : Operand} {ups : List (Nat × V)} {log : List Nat} (ho : o.op = .store X (.tmp t) x) (hdst : o.dst = none)
    (ht : addrOf t (T.getD t .dead) = some (r, p)) (hev : ∀ r p, addrOf t (T.getD t .dead) = some (r, p) → ∃ g, a.eval (.tmp t) = .pointer (some ⟨g, (node [] 0 p).2, none⟩) ∧ L g = .own r (node [] 0 p).1)
    (hr : T.getD r .dead = .hole u p') (h : (fillM C vs N kids X r p u p' x).Runs T ups log) : Step P o w0 L0 N vs (setAll T ups) a w := by
  cases x with
  | tmp s =>
    simp only [fillM] at h
    split at h
    · rename_i hc
      obtain ⟨hpp, hsv, hsr, hrN⟩ := hc
      obtain rfl := stEq_eq hpp
      obtain ⟨log1, rfl, h⟩ := h
      dsimp only at h
      generalize hvs : T.getD s .dead = v at h
      split at h
      · rename_i k e te y
        obtain ⟨⟨l, n', t', x'⟩, l1, l2, rfl, hz, h⟩ := M.runs_bind h
        dsimp only at h
        split at h
        · rename_i ht'
          subst ht'
          split at h
          · rename_i hcc
            obtain ⟨hX, hnk, hn0, rfl, hub⟩ := hcc
            obtain ⟨u2, l3, l4, rfl, hm, h⟩ := M.runs_bind h
            obtain ⟨hbare, log2, h⟩ := bareM_runs h
            obtain ⟨rfl, _⟩ := h
            have hbare' : ∀ z, (T.getD z .dead).deepOn r = false ∨ (T.getD z .dead).on r = false := by
              intro z
              by_cases hzs : z = s
              · right; rw [hzs, hvs]; rfl
              · exact .inl (hbare z hzs)
            obtain ⟨g, cur, e2, g1, g2, g3, hroot, hI1⟩ := Inv.ghost hI hr hub hrN hbare'
            obtain ⟨g', hev1, hg'⟩ := hev r p ht
            obtain rfl := hI.inj g g' r _ g1 hg'
            have hT1 : ∀ z, z ≠ r → (T.set r u).getD z .dead = T.getD z .dead := fun z hz => by rw [getD_set, if_neg (fun h => hz h.1)]
            have hT1r : (T.set r u).getD r .dead = u := by rw [getD_set, if_pos ⟨rfl, by rw [hI.len]; exact hrN⟩]
            -- the value
            have hss := hI.slots s
            rw [hvs] at hss
            obtain ⟨_, cs, hf, hown⟩ := hss
            have hf : cs = [a.tmps.getD s undef] := hf
            have hone := Own.one hown
            have hrun : (execOp a.eval o).run P w = .ok .skip (w.setRow g (putCells cur (node [] 0 p).2 cs)) := by
              have hst := run_store_cells (P := P) (w := w) (o := (node [] 0 p).2) (hC X _ hX) g2 (show Form (.slice e te) cs (a.eval (.tmp s)) from hf) hone (Own.len hown) (by simp only [Ty.sz]; omega)
              simp [execOp, ho, hev1, hst]
            have hlen : cs.length = 1 := by rw [hf]; rfl
            have hworld : (w.setCell ⟨g, (node [] 0 p).2, none⟩ (.slice none 0 0)).setRow g (putCells (cur.setIfInBounds (node [] 0 p).2 (.slice none 0 0)) (node [] 0 p).2 cs) = w.setRow g (putCells cur (node [] 0 p).2 cs) := by
              rw [hf]; exact set_setCell g2 g3
            intro K Q hK
            unfold Oper.wp
            rw [hrun, Oper.upon_skip, hdst, ← hworld]
            have hlenT : (setAll T [(r, u2), (s, V.dead)]).length = N := by rw [length_setAll, hI.len]
            have hsN : s < N := by
              rcases Nat.lt_or_ge s N with h | h
              · exact h
              · rw [getD_out (by rw [hI.len]; exact h)] at hvs; cases hvs
            have hTs : (setAll T [(r, u2), (s, V.dead)]).getD s .dead = .dead := by
              show ((T.set r u2).set s .dead).getD s .dead = .dead
              rw [getD_set, if_pos ⟨rfl, by simp [hI.len, hsN]⟩]
            have hTr : (setAll T [(r, u2), (s, V.dead)]).getD r .dead = u2 := by
              show ((T.set r u2).set s .dead).getD r .dead = u2
              rw [getD_set, if_neg (fun h => hsr h.1.symm), getD_set, if_pos ⟨rfl, by rw [hI.len]; exact hrN⟩]
            have hTo : ∀ z, z ≠ r → z ≠ s → (setAll T [(r, u2), (s, V.dead)]).getD z .dead = T.getD z .dead := by
              intro z h1 h2
              show ((T.set r u2).set s .dead).getD z .dead = _
              rw [getD_set, if_neg (fun h => h2 h.1), getD_set, if_neg (fun h => h1 h.1)]
            have hz1 : (rootD p u).Runs (T.set r u) (none, ⟨n', .slice e te, x'⟩) l1 := calm_runs (rootD_calm u) hz
            have hm1 : (modRoot p u (.slice e te) y).Runs (T.set r u) u2 l3 := calm_runs (modRoot_calm u) hm
            refine hK a _ _ (Inv.store (m := n') (src := some s) hI1 hT1r hz1 hm1 (by rw [hroot]; simp) g1 (setCell_block g2) (by simp only [Ty.sz, Array.size_setIfInBounds]; omega) (by rw [hlen]; rfl) ?_ hlenT hTr ?_ ?_ ?_)
            · intro s' hs'
              injection hs' with hs'
              subst hs'
              have hnv : s ∉ vs := fun hm' => by
                rw [List.contains_iff_mem.2 hm'] at hsv
                cases hsv
              exact ⟨hsr, hnv, hTs, by rw [hT1 s hsr, hvs]; rfl⟩
            · intro z h1 h2 hon
              have h2' : z ≠ s := fun e => h2 (by rw [e])
              rw [hT1 z h1] at hon ⊢
              refine .inr ⟨hTo z h1 h2', ?_⟩
              have hd := (hbare' z).resolve_right (by rw [hon]; simp)
              unfold V.deepOn at hd
              rw [hon, Bool.true_and] at hd
              generalize T.getD z .dead = v at hd
              cases v with
              | ptr r2 p2 t2 =>
                have : u.isD = false := by cases u <;> simp [V.boxy, V.isD] at hub ⊢
                simp only [keepable, this, Bool.not_false, Bool.and_true, Bool.or_eq_true]
                exact .inr (by simpa using hd)
              | _ => simp at hd
            · intro z h1 h2 hon
              rw [hT1 z h1]
              exact hTo z h1 (fun e => h2 (by rw [e]))
            · obtain ⟨k9, c9, how9⟩ := Own.atLeast (t := .slice e te) hnk hown
              refine Own.moveLow c9 (fun k hk => ?_) (fun k d rest hd hk => ?_) how9
              · rcases hk with hk | ⟨_, _, hk, _⟩
                · refine ⟨.inl (newLab_stable hI1 hk), ?_⟩
                  rw [setRow_other _ g k _ (by rintro rfl; rw [g1] at hk; cases hk), setCell_other (by rintro rfl; rw [g1] at hk; cases hk)]
                · cases hk
              · have hk' : L k = .own s (d :: rest) := by simpa using hk
                have hkg : k ≠ g := by rintro rfl; rw [g1] at hk'; injection hk' with hk' _; exact hsr hk'.symm
                have hlab : newLab (stF r (node [] 0 p).1 (node [] 0 p).2 (Ty.slice e te).sz n' (some s)) (w.setCell ⟨g, (node [] 0 p).2, none⟩ (.slice none 0 0)) L (fun _ => .free) k = if rest.length < n' then .own r ((node [] 0 p).1 ++ ((node [] 0 p).2 + d) :: rest) else .stable := by
                  rw [newLab_old hI1 (by rw [hk']; simp), hk']
                  simp only [relab, stF]
                  rw [if_neg hsr, if_pos trivial, if_pos hd]
                refine ⟨by rw [setRow_other _ g k _ hkg, setCell_other hkg], fun h => by rw [hlab, if_pos h], fun h => .inl (by rw [hlab, if_neg (by omega)])⟩
          · exact h.elim
        · exact h.elim
      · exact h.elim
    · exact h.elim
  | const c => exact h.elim
  | func f => exact h.elim
  | global g => exact h.elim

end
end Go.Proofs.Ytdfcejijcnhcaaa.C.Am
