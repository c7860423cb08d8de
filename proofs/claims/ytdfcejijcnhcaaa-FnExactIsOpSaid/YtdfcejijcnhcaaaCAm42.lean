/- A part of the proof: Am42. No conditions. -/
import Derived.Test.YtdfcejijcnhcaaaCAm41
set_option linter.unusedVariables false
set_option linter.unusedSimpArgs false
namespace Go.Proofs.Ytdfcejijcnhcaaa.C.Am

/-! ## 42. Variables in memory: their fields' addresses, taking them whole or in part -/
/-- The address of a variable's field; of the variable only is asked that it is one. -/
def fieldBoxM (C : Ctx) (X : TypeId) (f t : Nat) : M V :=
  .ask (boxKey t) (match aggOf C X with
    | some ta => match compT f ta with
      | some (off, t1) => .ret (.ptr t [.fld f off] t1)
      | none => .fail
    | none => .fail)

section
variable {P : Program} {C : Ctx} {w w' w0 : World} {S S' : Nat → Prop} {L L' L0 : Nat → Lab} {s N : Nat} {vs : List Nat} {T T' : List V} {tm tm' : Array Value} {a : Act}

theorem boxy_addr {v : V} {c : Value} (hs : SRep L T tm s v w c) (hb : v.boxy = true) : ∃ g, c = .pointer (some ⟨g, 0, none⟩) ∧ L g = .own s [] := by
  cases v with
  | box l n t x =>
    obtain ⟨_, g, cur, e, h1, h2, _⟩ := hs
    exact ⟨g, h1, h2⟩
  | hole u p =>
    cases u with
    | box l n t x =>
      obtain ⟨_, _, _, _, _, _, _, h⟩ := hs
      obtain ⟨_, g, cur, e, h1, h2, _⟩ := h
      exact ⟨g, h1, h2⟩
    | _ => simp [V.boxy] at hb
  | _ => simp [V.boxy] at hb

theorem pure_fieldBox (hI : Inv w0 L0 N vs T a w L) (hC : CtxOk P C) {o : Oper} {X : TypeId} {t f d : Nat} {v : V} {log : List Nat} (ho : o.op = .fieldAddr X (.tmp t) f)
    (h : (fieldBoxM C X f t).Runs T v log) (hvs : ∀ r, v.on r = true → r ∈ vs) : PureRes P o vs T a w L d v := by
  obtain ⟨⟨hq, _⟩, log', rfl, h⟩ := h
  obtain ⟨g, h1, h2⟩ := boxy_addr (hI.slots t) (ask_box hq)
  split at h
  · rename_i ta hta
    split at h
    · rename_i off t1 hc
      obtain ⟨rfl, _⟩ := h
      have h1' : a.eval (.tmp t) = _ := h1
      refine PureRes.ptr hI (g := g) ?_ h2 hvs
      simp [execOp, ho, h1', run_fieldAt hC hta hc, node]
    · exact h.elim
  · exact h.elim

/-! ### holes -/
/-- The rows of a place of r become slot s's; all else of r stays. -/
def tkF (r : Nat) (q : List Nat) (o s : Nat) : Nat → List Nat → Lab := fun z q2 =>
  if z = r then match cut q q2 with
    | some (y :: rest) => if y = o then .own s (0 :: rest) else .own r q2
    | _ => .own r q2
  else if z = s then .other else .own z q2

theorem tkF_key {r s : Nat} {q : List Nat} {o : Nat} {z : Nat} {q2 : List Nat} {z' : Nat} {q3 : List Nat} (h : tkF r q o s z q2 = .own z' q3) :
    (z = r ∧ ∃ rest, q2 = q ++ o :: rest ∧ z' = s ∧ q3 = 0 :: rest) ∨ (z = r ∧ z' = r ∧ q3 = q2 ∧ ∀ rest, q2 ≠ q ++ o :: rest) ∨ (z ≠ r ∧ z ≠ s ∧ z' = z ∧ q3 = q2) := by
  unfold tkF at h
  split at h
  · rename_i hz
    split at h
    · rename_i y rest hc
      split at h
      · rename_i hy
        injection h with h1 h2
        subst hy
        exact .inl ⟨hz, rest, cut_some hc, h1.symm, h2.symm⟩
      · rename_i hy
        injection h with h1 h2
        refine .inr (.inl ⟨hz, h1.symm, h2.symm, fun rest' he => ?_⟩)
        rw [he, cut_append] at hc
        simp only [Option.some.injEq, List.cons.injEq] at hc
        exact hy hc.1.symm
    · rename_i hno
      injection h with h1 h2
      refine .inr (.inl ⟨hz, h1.symm, h2.symm, fun rest' he => ?_⟩)
      exact hno o rest' (by rw [he, cut_append])
  · rename_i hz
    split at h
    · cases h
    · rename_i hs
      injection h with h1 h2
      exact .inr (.inr ⟨hz, hs, h1.symm, h2.symm⟩)

theorem tkF_fun {r s : Nat} {q : List Nat} {o : Nat} {X : Nat → Prop} (hr : X r) (hs : X s) (hrs : r ≠ s) : Fun (tkF r q o s) X := by
  refine ⟨fun z q2 hX => ?_, fun z q2 z' q3 hX h => ?_, fun z q2 z2 q3 z' q4 h1 h2 => ?_, fun z q2 => ?_⟩
  · unfold tkF
    rw [if_neg (fun e : z = r => hX (e ▸ hr)), if_neg (fun e : z = s => hX (e ▸ hs))]
  · rcases tkF_key h with ⟨_, _, _, rfl, _⟩ | ⟨_, rfl, _⟩ | ⟨_, _, rfl, _⟩
    · exact hs
    · exact hr
    · exact hX
  · rcases tkF_key h1 with ⟨rfl, rest, rfl, rfl, rfl⟩ | ⟨rfl, rfl, rfl, hn⟩ | ⟨g1, g2, rfl, rfl⟩
    · rcases tkF_key h2 with ⟨rfl, rest', rfl, _, he⟩ | ⟨rfl, he, _⟩ | ⟨_, g2, he, _⟩
      · injection he with _ he
        exact ⟨rfl, by rw [he]⟩
      · exact absurd he.symm hrs
      · exact absurd he.symm g2
    · rcases tkF_key h2 with ⟨_, rest', _, he, _⟩ | ⟨rfl, _, he, _⟩ | ⟨g1, _, he, _⟩
      · exact absurd he hrs
      · exact ⟨rfl, he⟩
      · exact absurd he.symm g1
    · rcases tkF_key h2 with ⟨_, rest', _, he, _⟩ | ⟨_, he, _⟩ | ⟨_, _, h3, h4⟩
      · exact absurd he g2
      · exact absurd he g1
      · exact ⟨h3, h4⟩
  · unfold tkF
    repeat' split
    all_goals simp

theorem tkF_at {r s : Nat} {q : List Nat} {o : Nat} {rest : List Nat} : tkF r q o s r (q ++ o :: rest) = .own s (0 :: rest) := by
  unfold tkF
  rw [if_pos rfl, cut_append]
  simp

theorem tkF_off {r s : Nat} {q : List Nat} {o : Nat} {q2 : List Nat} (h : ∀ rest, q2 ≠ q ++ o :: rest) : tkF r q o s r q2 = .own r q2 := by
  unfold tkF
  rw [if_pos rfl]
  split
  · rename_i y rest hc
    split
    · rename_i hy
      subst hy
      exact absurd (cut_some hc) (h rest)
    · rfl
  · rfl

theorem setCell_block {g o : Nat} {cur : Array Value} {e : TypeId} {v : Value} (h : w.heap[g]? = some (.cells cur e (0, 0))) : (w.setCell ⟨g, o, none⟩ v).heap[g]? = some (.cells (cur.setIfInBounds o v) e (0, 0)) := by
  simp [World.setCell, Array.getElem?_modify, h]

theorem setCell_other {g o k : Nat} {v : Value} (h : k ≠ g) : (w.setCell ⟨g, o, none⟩ v).heap[k]? = w.heap[k]? := by
  simp only [World.setCell, Array.getElem?_modify]
  rw [if_neg (Ne.symm h)]

theorem rootD_lender {p : List St} {u : V} {l : Option Nat} {z : D} {log : List Nat} (h : (rootD p u).Runs T (l, z) log) : u.root = l := by
  cases u with
  | box l0 n t x =>
    obtain ⟨zz, l1, l2, rfl, h1, h2⟩ := M.runs_bind h
    obtain ⟨h2, _⟩ := h2
    cases h2
    rfl
  | d l0 n t x =>
    simp only [rootD] at h
    split at h
    · obtain ⟨zz, l1, l2, rfl, h1, h2⟩ := M.runs_bind h
      obtain ⟨h2, _⟩ := h2
      cases h2
      rfl
    · exact h.elim
  | dead => exact h.elim
  | tup _ => exact h.elim
  | rp _ _ _ => exact h.elim
  | ptr _ _ _ => exact h.elim
  | view _ _ _ => exact h.elim
  | hole _ _ => exact h.elim
  | part _ _ _ _ _ => exact h.elim

/-- Part of a variable becomes the looking slot's own; a hole is left. -/
theorem Inv.takeHole (hI : Inv w0 L0 N vs T a w L) {s r n : Nat} {p : List St} {u u' : V} {e : TypeId} {te : Ty} {x : List te.den} {log log2 : List Nat} (hs : T.getD s .dead = .view r p (.slice e te)) (hr : T.getD r .dead = u) (hu : u.boxy = true) (hsN : s < N) (hrN : r < N)
    (hz : (rootD p u).Runs T (none, ⟨n, .slice e te, x⟩) log) (hm : (modRoot p u (.slice e te) []).Runs T u' log2) (hn : n ≠ 0) (hbare : ∀ z, z ≠ s → (T.getD z .dead).deepOn r = false) :
    ∃ L', Inv w0 L0 N vs ((T.set r (.hole u' p)).set s (.d none n (.slice e te) x)) a w L' := by
  have hroot := rootD_lender hz
  obtain ⟨hrt, hown', hdeep', hisd'⟩ := modRoot_same hm
  have hsr := hI.slots s
  rw [hs] at hsr
  have hrs : r ≠ s := by
    rintro rfl
    rw [hs] at hr
    subst hr
    simp [V.boxy] at hu
  have hzv : (viewD p (T.getD r .dead)).Runs T (none, ⟨n, .slice e te, x⟩) log := by
    rw [hr]
    cases u with
    | box l0 n0 t0 x0 => exact hz
    | hole _ _ => exact hz
    | _ => simp [V.boxy] at hu
  obtain ⟨cs, hf, hown, _, hdp⟩ := view_own hI hsr hzv
  have hsl := hI.slots r
  rw [hr] at hsl
  obtain ⟨hb, _, _, howns, hisd⟩ := rootD_inB hz hsl
  obtain ⟨g, cur, e', k1, k2, k3, k4⟩ := hb
  have hTs : ((T.set r (.hole u' p)).set s (.d none n (.slice e te) x)).getD s .dead = .d none n (.slice e te) x := by
    rw [getD_set, if_pos ⟨rfl, by simp [hI.len, hsN]⟩]
  have hTr : ((T.set r (.hole u' p)).set s (.d none n (.slice e te) x)).getD r .dead = .hole u' p := by
    rw [getD_set, if_neg (fun h => hrs h.1), getD_set, if_pos ⟨rfl, by rw [hI.len]; exact hrN⟩]
  have hTo : ∀ z, z ≠ r → z ≠ s → ((T.set r (.hole u' p)).set s (.d none n (.slice e te) x)).getD z .dead = T.getD z .dead := by
    intro z h1 h2
    rw [getD_set, if_neg (fun h => h2 h.1), getD_set, if_neg (fun h => h1 h.1)]
  -- what hangs on r is an address near
  have hptr : ∀ z, z ≠ s → (T.getD z .dead).on r = true → ∃ p' t', T.getD z .dead = .ptr r p' t' ∧ shallow p' = true := by
    intro z hzs hon
    have hb := hbare z hzs
    unfold V.deepOn at hb
    rw [hon, Bool.true_and] at hb
    generalize T.getD z .dead = v at hb hon
    cases v with
    | ptr r2 p2 t2 =>
      have : r2 = r := by simpa [V.on, V.root] using hon
      subst this
      exact ⟨p2, t2, rfl, by simpa using hb⟩
    | _ => simp at hb
  refine ⟨_, Inv.updF (f := tkF r (node [] 0 p).1 (node [] 0 p).2 s) (X := fun z => z = r ∨ z = s ∨ (T.getD z .dead).on r = true) (nl := fun _ => .free) hI (tkF_fun (.inl rfl) (.inr (.inl rfl)) hrs) (Wd.refl hI _) (fun _ _ _ _ _ h => by cases h) hI.size (by simp [hI.len]) hI.dfr ?_ ?_ ?_ ?_ ?_⟩
  · intro k z q hz' h
    by_cases h1 : z = r
    · subst h1; rw [hTr]; rfl
    · by_cases h2 : z = s
      · subst h2; rw [hTs]; simp [V.owns, hn, Ty.depth]
      · rw [hTo z h1 h2]
        unfold newLab at h
        split at h
        · obtain ⟨s0, q0, e0, f0⟩ := relab_own h
          rcases tkF_key f0 with ⟨_, _, _, h3, _⟩ | ⟨_, h3, _⟩ | ⟨_, _, h3, h4⟩
          · exact absurd h3 h2
          · exact absurd h3 h1
          · subst h3
            exact hI.owner k _ _ e0
        · cases h
  · intro z r' hz' hon hr'
    have hz' := not_or.1 hz'
    have hz2 := not_or.1 hz'.2
    rcases hr' with rfl | rfl | hr'
    · exact absurd hon hz2.2
    · rw [hs]; rfl
    · by_cases h2 : r' = s
      · subst h2; rw [hs]; rfl
      · obtain ⟨p', t', he, _⟩ := hptr r' h2 hr'
        rw [he]; rfl
  · intro z hz'
    have hz' := not_or.1 hz'
    have hz2 := not_or.1 hz'.2
    exact ⟨hTo z hz'.1 hz2.1, rfl⟩
  · intro z r' hz' hon
    by_cases h1 : z = r
    · subst h1
      rw [hTr] at hon
      simp [V.on, V.root, hrt, hroot] at hon
    · by_cases h2 : z = s
      · subst h2; rw [hTs] at hon; simp [V.on, V.root] at hon
      · rw [hTo z h1 h2] at hon
        exact hI.roots z r' hon
  · intro z hz'
    by_cases h1 : z = r
    · subst h1
      rw [hTr]
      refine ⟨by rw [hrt, hroot], g, cur, e', ?_, k2, by simp only [Ty.sz] at k3; omega, ?_⟩
      · rw [newLab_old hI (by rw [k1]; simp), k1]
        exact tkF_off (fun rest h => by have := congrArg List.length h; simp at this)
      · refine modRoot_rep (T2 := _) (cur := cur) (e' := e') (g' := g) (cur' := cur.setIfInBounds (node [] 0 p).2 (.slice none 0 0)) hsl hz hm (fun r' hr' => by rw [hroot] at hr'; cases hr') ?_ ?_
        · refine ⟨fun k hk => ?_, fun k q2 hk hq hun => ?_, k1, ?_, k2, setCell_block k2, by simp, fun i hi => ?_, fun k hk => hI.inj k g z _ hk k1⟩
          · rw [hroot] at hk ⊢
            rcases hk with hk | ⟨_, _, hk, _⟩
            · exact ⟨.inl (newLab_stable hI hk), setCell_other (by rintro rfl; rw [k1] at hk; cases hk)⟩
            · cases hk
          · refine ⟨?_, setCell_other (by rintro rfl; rw [k1] at hk; injection hk with _ hk; exact hq hk.symm)⟩
            rw [newLab_old hI (by rw [hk]; simp), hk]
            exact tkF_off (fun rest h => hun ⟨0, rest, by simp [Ty.sz], by simpa using h⟩)
          · rw [newLab_old hI (by rw [k1]; simp), k1]
            exact tkF_off (fun rest h => by have := congrArg List.length h; simp at this)
          · rw [Array.getElem?_setIfInBounds, if_neg (by simp only [Ty.sz] at hi; omega)]
        · have hc : ((cur.setIfInBounds (node [] 0 p).2 (.slice none 0 0)).toList.drop (node [] 0 p).2).take (Ty.slice e te).sz = [.slice none 0 0] := by
            simp only [Ty.sz] at k3 ⊢
            apply List.ext_getElem?
            intro i
            rw [List.getElem?_take]
            split
            · obtain rfl : i = 0 := by omega
              rw [List.getElem?_drop, Nat.add_zero, Array.getElem?_toList, Array.getElem?_setIfInBounds, if_pos rfl, if_pos (by omega)]
              rfl
            · exact (List.getElem?_eq_none (by simp; omega)).symm
          rw [hc]
          cases n with
          | zero => exact absurd rfl hn
          | succ n => simp only [Own]; exact .inl (by constructor <;> first | trivial | rfl)
    · by_cases h2 : z = s
      · subst h2
        rw [hTs]
        refine ⟨by simp, cs, hf, ?_⟩
        refine Own.move (fun k hk => ?_) (fun k d rest hd hk => ⟨?_, rfl⟩) hown
        · rcases hk with hk | ⟨_, _, hk, _⟩
          · exact ⟨.inl (newLab_stable hI hk), rfl⟩
          · cases hk
        · simp only [Ty.sz] at hd
          obtain rfl : d = 0 := by omega
          rw [newLab_old hI (by rw [hk]; simp), hk]
          simp only [relab, Nat.add_zero, Nat.zero_add, List.nil_append]
          exact tkF_at
      · rw [hTo z h1 h2]
        have hon : (T.getD z .dead).on r = true := by
          rcases hz' with h | h | h
          · exact absurd h h1
          · exact absurd h h2
          · exact h
        obtain ⟨p', t', he, hsh⟩ := hptr z h2 hon
        have hsz := hI.slots z
        rw [he] at hsz ⊢
        obtain ⟨g2, j1, j2⟩ := hsz
        refine ⟨g2, j1, ?_⟩
        rw [shallow_node hsh] at j2 ⊢
        rw [newLab_old hI (by rw [j2]; simp), j2]
        exact tkF_off (fun rest h => by have := congrArg List.length h; simp at this)

end
end Go.Proofs.Ytdfcejijcnhcaaa.C.Am
