/- A part of the proof: Am45. No conditions. -/
import Derived.Test.YtdfcejijcnhcaaaCAm44
set_option linter.unusedVariables false
set_option linter.unusedSimpArgs false
namespace Go.Proofs.Ytdfcejijcnhcaaa.C.Am

/-! ## 45. A variable in memory gets a value that is only read -/
def wholeM (C : Ctx) (vs : List Nat) (N : Nat) (kids : List Nat) (X : TypeId) (r : Nat) (u : V) (x : Operand) (m : M (List (Nat × V))) : M (List (Nat × V)) :=
  match u with
  | .box _ _ t0 _ => (opnd C X x).bind fun v => match v with
    | .d l 0 t y => if t = t0 ∧ C.ty X = some t ∧ t.depth ≠ 0 ∧ r < N ∧ l ≠ some r then
        bareM false r r kids (.chk (okOn vs (.box l 0 t y)) (.ret [(r, .box l 0 t y)]))
      else m
    | _ => m
  | _ => m

/-- The rows of r but its own block are given up. -/
def whF (r : Nat) : Nat → List Nat → Lab := fun z q => if z = r then (match q with | [] => .own r [] | _ :: _ => .other) else .own z q

section
variable {P : Program} {C : Ctx} {w w' w0 : World} {S S' : Nat → Prop} {L L' L0 : Nat → Lab} {s N : Nat} {vs : List Nat} {T T' : List V} {tm tm' : Array Value} {a : Act}

theorem whF_key {r z z' : Nat} {q q' : List Nat} (h : whF r z q = .own z' q') : z' = z ∧ q' = q ∧ (z = r → q = []) := by
  unfold whF at h
  split at h
  · rename_i hz
    split at h
    · injection h with h1 h2
      exact ⟨by rw [← h1, hz], h2.symm, fun _ => rfl⟩
    · cases h
  · rename_i hz
    injection h with h1 h2
    exact ⟨h1.symm, h2.symm, fun e => absurd e hz⟩

theorem whF_fun {r : Nat} {X : Nat → Prop} (hr : X r) : Fun (whF r) X := by
  refine ⟨fun z q hX => ?_, fun z q z' q' hX h => ?_, fun z q z2 q2 z' q' h1 h2 => ?_, fun z q => ?_⟩
  · unfold whF
    rw [if_neg (fun e : z = r => hX (e ▸ hr))]
  · obtain ⟨rfl, _⟩ := whF_key h
    exact hX
  · obtain ⟨rfl, rfl, _⟩ := whF_key h1
    obtain ⟨h3, h4, _⟩ := whF_key h2
    exact ⟨h3, h4⟩
  · unfold whF
    repeat' split
    all_goals simp

theorem step_whole (hI : Inv w0 L0 N vs T a w L) (hC : CtxOk P C) {o : Oper} {X : TypeId} {t r : Nat} {kids : List Nat} {u : V} {x : Operand} {m : M (List (Nat × V))} {ups : List (Nat × V)} {log : List Nat} (ho : o.op = .store X (.tmp t) x) (hdst : o.dst = none)
    (ht : addrOf t (T.getD t .dead) = some (r, [])) (hev : ∀ r p, addrOf t (T.getD t .dead) = some (r, p) → ∃ g, a.eval (.tmp t) = .pointer (some ⟨g, (node [] 0 p).2, none⟩) ∧ L g = .own r (node [] 0 p).1)
    (hr : T.getD r .dead = u) (hm : ∀ {log : List Nat}, m.Runs T ups log → Step P o w0 L0 N vs (setAll T ups) a w) (h : (wholeM C vs N kids X r u x m).Runs T ups log) : Step P o w0 L0 N vs (setAll T ups) a w := by
  unfold wholeM at h
  split at h
  · rename_i l0 n0 t0 x0
    obtain ⟨v, l1, l2, rfl, hx, h2⟩ := M.runs_bind h
    split at h2
    · rename_i l tt y
      split at h2
      · rename_i hc
        obtain ⟨rfl, hX, hd, hrN, hlr⟩ := hc
        obtain ⟨hbare, log2, h3⟩ := bareM_runs h2
        obtain ⟨hok, rfl, _⟩ := h3
        obtain ⟨g, hev1, hg⟩ := hev r [] ht
        have hsl := hI.slots r
        rw [hr] at hsl
        obtain ⟨_, g2, cur, e, k1, k2, k3, k4, k5⟩ := hsl
        obtain rfl := hI.inj g g2 r _ hg k2
        -- the value
        have hval : ∃ s0, (∀ r', l = some r' → (T.getD r' .dead).deep = true) ∧ ∃ cs, Form tt cs (a.eval x) ∧ Own w L (SL L l) s0 0 tt y [] 0 cs := by
          rcases opnd_rep hI hx with ⟨s, _, _, h⟩ | ⟨_, h⟩
          · exact ⟨s, h⟩
          · exact ⟨0, h L T a.tmps 0 w⟩
        obtain ⟨s0, hlend, cs, hf, how⟩ := hval
        have hone := Own.one how
        have hlen := Own.len how
        have hev2 : a.eval (.tmp t) = .pointer (some ⟨g, 0, none⟩) := hev1
        have hrun : (execOp a.eval o).run P w = .ok .skip (w.setRow g (putCells cur 0 cs)) := by
          have hst := run_store_cells (P := P) (w := w) (o := 0) (hC X _ hX) k3 hf hone hlen (by omega)
          simp [execOp, ho, hev2, hst]
        have hput : (putCells cur 0 cs).toList = cs := by
          simp [putCells, hlen, k4]
        intro K Q hK
        unfold Oper.wp
        rw [hrun, Oper.upon_skip, hdst]
        have hTr : (setAll T [(r, V.box l 0 tt y)]).getD r .dead = .box l 0 tt y := by
          show (T.set r _).getD r .dead = _
          rw [getD_set, if_pos ⟨rfl, by rw [hI.len]; exact hrN⟩]
        have hTo : ∀ z, z ≠ r → (setAll T [(r, V.box l 0 tt y)]).getD z .dead = T.getD z .dead := by
          intro z hz
          show (T.set r _).getD z .dead = _
          rw [getD_set, if_neg (fun h => hz h.1)]
        have hptr : ∀ z, z ≠ r → (T.getD z .dead).on r = true → ∃ p' t', T.getD z .dead = .ptr r p' t' ∧ shallow p' = true := by
          intro z hzs hon
          have hb : (T.getD z .dead).deepOn r = false := hbare z hzs
          unfold V.deepOn at hb
          rw [hon, Bool.true_and] at hb
          generalize T.getD z .dead = v at hb hon
          cases v with
          | ptr r2 p2 t2 =>
            have : r2 = r := by simpa [V.on, V.root] using hon
            subst this
            exact ⟨p2, t2, rfl, by simpa using hb⟩
          | _ => simp at hb
        have hlX : ∀ r', l = some r' → r' ≠ r ∧ (T.getD r' .dead).on r = false := by
          intro r' hl'
          have hne : r' ≠ r := fun e => hlr (by rw [hl', e])
          refine ⟨hne, ?_⟩
          cases hon : (T.getD r' .dead).on r with
          | false => rfl
          | true =>
            obtain ⟨p', t', he, _⟩ := hptr r' hne hon
            have := hlend r' hl'
            rw [he] at this
            simp [V.deep] at this
        have hoth : ∀ k, k ≠ g → (w.setRow g (putCells cur 0 cs)).heap[k]? = w.heap[k]? := fun k hk => setRow_other w g k _ hk
        refine hK a _ _ (Inv.updF (f := whF r) (X := fun z => z = r ∨ (T.getD z .dead).on r = true) (nl := fun _ => .free) hI (whF_fun (.inl rfl)) ?_ (fun _ _ _ _ _ h => by cases h) hI.size (by rw [length_setAll, hI.len]) hI.dfr ?_ ?_ ?_ ?_ ?_)
        · refine ⟨rfl, rfl, rfl, by simp [World.setRow], fun k hk hx => hoth k ?_, fun _ _ => rfl, fun _ _ _ _ h => by cases h⟩
          rintro rfl
          exact hx r _ hg (.inl rfl)
        · intro k z q hz hk
          by_cases hzr : z = r
          · subst hzr; rw [hTr]; rfl
          · rw [hTo z hzr]
            unfold newLab at hk
            split at hk
            · obtain ⟨s0, q0, e0, f0⟩ := relab_own hk
              obtain ⟨rfl, rfl, _⟩ := whF_key f0
              exact hI.owner k _ _ e0
            · cases hk
        · intro z r' hz hon hr'
          have hz := not_or.1 hz
          rcases hr' with rfl | hr'
          · exact absurd hon hz.2
          · by_cases h2 : r' = r
            · subst h2; exact absurd hon hz.2
            · obtain ⟨p', t', he, _⟩ := hptr r' h2 hr'
              rw [he]; rfl
        · intro z hz
          have hz := not_or.1 hz
          exact ⟨hTo z hz.1, rfl⟩
        · intro z r' hz hon
          by_cases h1 : z = r
          · subst h1
            rw [hTr] at hon
            exact okOn_mem hok r' hon
          · rw [hTo z h1] at hon
            exact hI.roots z r' hon
        · intro z hz
          by_cases h1 : z = r
          · subst h1
            rw [hTr]
            refine ⟨fun r' hr' => ?_, g, putCells cur 0 cs, e, k1, ?_, setRow_heap w g cur _ e _ k3, by rw [putCells_size (by omega)]; exact k4, ?_⟩
            · rw [hTo r' (hlX r' hr').1]
              exact hlend r' hr'
            · rw [newLab_old hI (by rw [hg]; simp), hg]
              simp [relab, whF, node]
            · rw [hput]
              refine Own.of_rd (Rd.move (fun k hk => ?_) (Own.rd0 how))
              rcases hk with hk | ⟨r', q, hl', hk⟩
              · exact ⟨.inl (newLab_stable hI hk), hoth k (by rintro rfl; rw [hg] at hk; cases hk)⟩
              · obtain ⟨h1, h2⟩ := hlX r' hl'
                refine ⟨.inr ⟨r', q, hl', newLab_id hI (whF_fun (X := fun z' => z' = z ∨ (T.getD z' .dead).on z = true) (.inl rfl)) hk (not_or.2 ⟨h1, by rw [h2]; simp⟩)⟩, hoth k ?_⟩
                rintro rfl
                rw [hg] at hk
                injection hk with hk _
                exact h1 hk.symm
          · rw [hTo z h1]
            have hon : (T.getD z .dead).on r = true := hz.resolve_left h1
            obtain ⟨p', t', he, hsh⟩ := hptr z h1 hon
            have hsz := hI.slots z
            rw [he] at hsz ⊢
            obtain ⟨g3, j1, j2⟩ := hsz
            refine ⟨g3, j1, ?_⟩
            rw [shallow_node hsh] at j2 ⊢
            rw [newLab_old hI (by rw [j2]; simp), j2]
            simp [relab, whF]
      · exact hm h2
    · exact hm h2
  · exact hm h

end
end Go.Proofs.Ytdfcejijcnhcaaa.C.Am
