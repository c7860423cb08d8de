/- A part of the proof: Am8. No conditions. -/
import Derived.Test.YtdfcejijcnhcaaaCAm7
set_option linter.unusedVariables false
set_option linter.unusedSimpArgs false
namespace Go.Proofs.Ytdfcejijcnhcaaa.C.Am

/-! ## 8. Reading memory -/
/-- The data at a place of a root. -/
def rootD (p : List St) : V → M (Option Nat × D)
  | .box l n t x => (getP p n t x).bind fun r => .ret (l, r)
  | .d l n t x => match p with
    | .idx sz i :: p' => (getP (.idx sz i :: p') n t x).bind fun r => .ret (l, r)
    | _ => .fail
  | _ => .fail

/-- The data that a view shows. -/
def viewD (p : List St) : V → M (Option Nat × D)
  | .d l n t x => match p with
    | [] => .ret (l, ⟨n, t, x⟩)
    | .idx sz i :: p' => (getP (.idx sz i :: p') n t x).bind fun r => .ret (l, r)
    | _ => .fail
  | u => rootD p u

def loadAtV (C : Ctx) (X : TypeId) (r : Nat) (p : List St) : M V :=
  .get r fun u => (rootD p u).bind fun z =>
    if C.ty X = some z.2.t then
      if z.2.t.depth = 0 then .ret (.d none 0 z.2.t z.2.x) else if z.2.n = 0 then .ret (.d z.1 0 z.2.t z.2.x) else .ret (.view r p z.2.t)
    else .fail

def loadV (C : Ctx) (X : TypeId) (t : Nat) : V → M V
  | .rp l t' x => if C.ty X = some t' then .ret (.d l 0 t' x) else .fail
  | .ptr r p _ => loadAtV C X r p
  | .box _ _ _ _ => loadAtV C X t []
  | _ => .fail

/-- What an operand reads as; the lender of what is not stable. -/
def readD (t : Nat) : V → M (Option Nat × (t : Ty) × t.den)
  | .d l n t' x => if n = 0 ∨ t'.depth = 0 then .ret (l, ⟨t', x⟩) else match l with
    | none => .ret (some t, ⟨t', x⟩)
    | some _ => .fail
  | .view r p t' => .get r fun u => (viewD p u).bind fun z => match z.1 with
    | none => if z.2.t = t' then .ret (some r, ⟨z.2.t, z.2.x⟩) else .fail
    | some _ => .fail
  | _ => .fail

section
variable {P : Program} {C : Ctx} {w w' w0 : World} {S S' : Nat → Prop} {L L' L0 : Nat → Lab} {s N : Nat} {vs : List Nat} {T T' : List V} {tm tm' : Array Value} {a : Act}

theorem node_append (q : List Nat) (o : Nat) (p p' : List St) : node q o (p ++ p') = node (node q o p).1 (node q o p).2 p' := by
  induction p generalizing q o with
  | nil => rfl
  | cons st p ih => cases st <;> simp only [List.cons_append, node] <;> exact ih _ _

theorem Own.elem {n : Nat} {e : TypeId} {t : Ty} {xs : List t.den} {q : List Nat} {o : Nat} {cs : List Value} (h : Own w L S s (n + 1) (.slice e t) xs q o cs) {i : Nat} (hi : i < xs.length) :
    InB w L S s n t (xs[i]) (q ++ [o]) (i * t.sz) := by
  simp only [Own] at h
  rcases h with ⟨_, rfl⟩ | ⟨g2, cap, cur2, hcs, hL, hg, h5, h6, h7, h8⟩
  · exact absurd hi (by simp)
  · refine ⟨g2, cur2, e, hL, hg, ?_, h8 _ hi⟩
    rw [h7]
    calc i * t.sz + t.sz = (i + 1) * t.sz := by rw [Nat.add_mul, Nat.one_mul]
      _ ≤ cap * t.sz := Nat.mul_le_mul_right _ (by omega)

theorem getP_le : {p : List St} → {n : Nat} → {t : Ty} → {x : t.den} → {n' : Nat} → {t' : Ty} → {x' : t'.den} → {log : List Nat} →
    (getP p n t x).Runs T ⟨n', t', x'⟩ log → n' ≤ n ∧ t'.depth ≤ t.depth
  | [], n, t, x, n', t', x', log, hr => by
    obtain ⟨he, _⟩ := hr
    cases he
    exact ⟨Nat.le_refl _, Nat.le_refl _⟩
  | .fld i off :: p, n, .agg t, x, n', t', x', log, hr => by
    simp only [getP] at hr
    split at hr
    · rename_i o1 t1 x1 hc
      split at hr
      · have h1 := getP_le hr
        have h2 := comp_depth hc
        simp only [Ty.depth]
        omega
      · exact hr.elim
    · exact hr.elim
  | .idx sz i :: p, n + 1, .slice e t, xs, n', t', x', log, hr => by
    simp only [getP] at hr
    split at hr
    · obtain ⟨y, hy, hr⟩ := hr
      have h1 := getP_le hr
      simp only [Ty.depth]
      omega
    · exact hr.elim
  | .idx _ _ :: p, 0, .slice _ _, _, _, _, _, _, hr => by simp only [getP] at hr; exact hr.elim
  | .fld _ _ :: p, _, .int _, _, _, _, _, _, hr => by simp only [getP] at hr; exact hr.elim
  | .fld _ _ :: p, _, .bool, _, _, _, _, _, hr => by simp only [getP] at hr; exact hr.elim
  | .fld _ _ :: p, _, .str, _, _, _, _, _, hr => by simp only [getP] at hr; exact hr.elim
  | .fld _ _ :: p, _, .raw _, _, _, _, _, _, hr => by simp only [getP] at hr; exact hr.elim
  | .fld _ _ :: p, _, .unit, _, _, _, _, _, hr => by simp only [getP] at hr; exact hr.elim
  | .fld _ _ :: p, _, .pair _ _, _, _, _, _, _, hr => by simp only [getP] at hr; exact hr.elim
  | .fld _ _ :: p, _, .slice _ _, _, _, _, _, _, hr => by simp only [getP] at hr; exact hr.elim
  | .idx _ _ :: p, _, .int _, _, _, _, _, _, hr => by simp only [getP] at hr; exact hr.elim
  | .idx _ _ :: p, _, .bool, _, _, _, _, _, hr => by simp only [getP] at hr; exact hr.elim
  | .idx _ _ :: p, _, .str, _, _, _, _, _, hr => by simp only [getP] at hr; exact hr.elim
  | .idx _ _ :: p, _, .raw _, _, _, _, _, _, hr => by simp only [getP] at hr; exact hr.elim
  | .idx _ _ :: p, _, .unit, _, _, _, _, _, hr => by simp only [getP] at hr; exact hr.elim
  | .idx _ _ :: p, _, .pair _ _, _, _, _, _, _, hr => by simp only [getP] at hr; exact hr.elim
  | .idx _ _ :: p, _, .agg _, _, _, _, _, _, hr => by simp only [getP] at hr; exact hr.elim
  where
  comp_depth : {i : Nat} → {t : Ty} → {x : t.den} → {o1 : Nat} → {t1 : Ty} → {x1 : t1.den} → comp i t x = some (o1, ⟨t1, x1⟩) → t1.depth ≤ t.depth
  | 0, .pair a b, x, o1, t1, x1, hc => by
    simp only [comp, Option.some.injEq, Prod.mk.injEq] at hc
    obtain ⟨rfl, hc⟩ := hc
    cases hc
    simp only [Ty.depth]; omega
  | i + 1, .pair a b, x, o1, t1, x1, hc => by
    simp only [comp, Option.map_eq_some_iff] at hc
    obtain ⟨⟨o2, t2, x2⟩, hc, he⟩ := hc
    simp only [Prod.mk.injEq] at he
    obtain ⟨rfl, he⟩ := he
    cases he
    have := comp_depth hc
    simp only [Ty.depth]; omega
  | 0, .int _, _, _, _, _, hc => by simp only [comp, Option.some.injEq, Prod.mk.injEq] at hc; obtain ⟨rfl, hc⟩ := hc; cases hc; simp
  | 0, .bool, _, _, _, _, hc => by simp only [comp, Option.some.injEq, Prod.mk.injEq] at hc; obtain ⟨rfl, hc⟩ := hc; cases hc; simp
  | 0, .str, _, _, _, _, hc => by simp only [comp, Option.some.injEq, Prod.mk.injEq] at hc; obtain ⟨rfl, hc⟩ := hc; cases hc; simp
  | 0, .raw _, _, _, _, _, hc => by simp only [comp, Option.some.injEq, Prod.mk.injEq] at hc; obtain ⟨rfl, hc⟩ := hc; cases hc; simp
  | 0, .unit, _, _, _, _, hc => by simp only [comp, Option.some.injEq, Prod.mk.injEq] at hc; obtain ⟨rfl, hc⟩ := hc; cases hc; simp
  | 0, .agg _, _, _, _, _, hc => by simp only [comp, Option.some.injEq, Prod.mk.injEq] at hc; obtain ⟨rfl, hc⟩ := hc; cases hc; simp
  | 0, .slice _ _, _, _, _, _, hc => by simp only [comp, Option.some.injEq, Prod.mk.injEq] at hc; obtain ⟨rfl, hc⟩ := hc; cases hc; simp

/-- A place in memory. -/
theorem rootD_inB {p : List St} {u : V} {c : Value} {l : Option Nat} {n' : Nat} {t' : Ty} {x' : t'.den} {log : List Nat} (hr : (rootD p u).Runs T (l, ⟨n', t', x'⟩) log) (hs : SRep L T tm s u w c) :
    InB w L (SL L l) s n' t' x' (node [] 0 p).1 (node [] 0 p).2 ∧ (∀ r, l = some r → (T.getD r .dead).deep = true) ∧ (n' ≠ 0 → t'.depth ≠ 0 → u.deep = true) ∧ u.owns = true ∧ (u.isD = false ∨ p ≠ []) := by
  cases u with
  | box l2 n t x =>
    obtain ⟨z, l1, l2', rfl, h1, h2⟩ := M.runs_bind hr
    obtain ⟨h2, _⟩ := h2
    cases h2
    obtain ⟨h0, g, cur, e, h3, h4, h5, h6, h7⟩ := hs
    refine ⟨getP_inB h1 ⟨g, cur, e, h4, h5, by omega, ?_⟩, h0, fun hn hd => ?_, rfl, .inl rfl⟩
    · rw [List.drop_zero, List.take_of_length_le (by rw [← h6]; simp)]
      exact h7
    · have := getP_le h1
      simp only [V.deep, Bool.and_eq_true, bne_iff_ne]
      omega
  | d l2 n t x =>
    simp only [rootD] at hr
    split at hr
    · rename_i sz i p'
      obtain ⟨z, l1, l2', rfl, h1, h2⟩ := M.runs_bind hr
      obtain ⟨h2, _⟩ := h2
      cases h2
      obtain ⟨h0, cs, h3, h4⟩ := hs
      have hle := getP_le h1
      have hdeep : n' ≠ 0 → t'.depth ≠ 0 → (V.d l n t x).deep = true := fun hn hd => by
        simp only [V.deep, Bool.and_eq_true, bne_iff_ne]
        omega
      cases t <;> cases n <;> simp only [getP] at h1 <;> try exact h1.elim
      rename_i e t n
      split at h1
      · rename_i hsz
        subst hsz
        obtain ⟨y, hy, h1⟩ := h1
        obtain ⟨hi, hi0, rfl⟩ := getI_some hy
        refine ⟨getP_inB (q := [] ++ [0]) h1 (Own.elem h4 hi), h0, hdeep, ?_, .inr (by simp)⟩
        simp [V.owns, Ty.depth]
      · exact h1.elim
    · exact hr.elim
  | dead => exact hr.elim
  | tup _ => exact hr.elim
  | rp _ _ _ => exact hr.elim
  | ptr _ _ _ => exact hr.elim
  | view _ _ _ => exact hr.elim
  | hole _ _ => exact hr.elim
  | part _ _ _ _ _ => exact hr.elim

theorem inB_load (hI : Inv w0 L0 N vs T a w L) (hC : CtxOk P C) {X : TypeId} {l : Option Nat} {n : Nat} {t : Ty} {x : t.den} {q : List Nat} {o g r : Nat}
    (hT : C.ty X = some t) (h : InB w L (SL L l) r n t x q o) (hg : L g = .own r q) :
    ∃ c cur e, (loadVar X ⟨g, o, none⟩).run P w = .ok c w ∧ w.heap[g]? = some (.cells cur e (0, 0)) ∧ o + t.sz ≤ cur.size ∧ Form t ((cur.toList.drop o).take t.sz) c ∧
      Own w L (SL L l) r n t x q o ((cur.toList.drop o).take t.sz) := by
  obtain ⟨g', cur, e, h1, h2, h3, h4⟩ := h
  obtain rfl := hI.inj g g' r q hg h1
  obtain ⟨c, hc, hf⟩ := (hC X t hT).run_loadVar (w := w) (g := g) (o := o) (Own.len h4) (InB.cell h2)
  exact ⟨c, cur, e, hc, h2, h3, hf, h4⟩

theorem pure_loadAt (hI : Inv w0 L0 N vs T a w L) (hC : CtxOk P C) {o : Oper} {X : TypeId} {x : Operand} {r d : Nat} {p : List St} {v : V} {log : List Nat} (ho : o.op = .load X x)
    (hid : (T.getD d .dead).idle = true) (hx : ∃ g, a.eval x = .pointer (some ⟨g, (node [] 0 p).2, none⟩) ∧ L g = .own r (node [] 0 p).1)
    (h : (loadAtV C X r p).Runs T v log) (hvs : ∀ r, v.on r = true → r ∈ vs) : PureRes P o vs T a w L d v := by
  obtain ⟨g, hx, hg⟩ := hx
  obtain ⟨log', rfl, h⟩ := h
  obtain ⟨⟨l, n', t', x'⟩, l1, l2, rfl, h1, h2⟩ := M.runs_bind h
  obtain ⟨hb, hl, hdp, hown, hisd⟩ := rootD_inB h1 (hI.slots r)
  have hrd : r ≠ d := idle_ne hid hown
  split at h2
  · rename_i hT
    obtain ⟨c, cur, e, hrun, hh, hsz, hf, ho'⟩ := inB_load hI hC hT hb hg
    have hrun' : (execOp a.eval o).run P w = .ok (.value c) w := by simp [execOp, ho, hx, Instr.loadAt, Instr.sureAddr, hrun]
    refine ⟨c, w, L, hrun', Grows.refl hI d, fun k q hk h => (by rw [hI.free k hk] at h; cases h), hvs, ?_⟩
    have hkeep : ∀ r', (T.getD r' .dead).owns = true → r' ≠ d := fun r' h1 => idle_ne hid h1
    split at h2
    · rename_i hd0
      obtain ⟨rfl, _⟩ := h2
      exact ⟨by simp, _, hf, Own.flat hd0 ho'⟩
    · rename_i hd0
      split at h2
      · rename_i hn0
        obtain ⟨rfl, _⟩ := h2
        refine ⟨fun r' hr' => ?_, _, hf, Own.at0 (.inl hn0) ho' (.inl rfl)⟩
        have := hl r' hr'
        rw [getD_set, if_neg (fun h => hkeep r' (V.owns_of_deep this) h.1)]
        exact this
      · rename_i hn0
        obtain ⟨rfl, _⟩ := h2
        refine ⟨?_, .inr ⟨g, cur, e, ?_, hg, hh, hsz, hf⟩⟩
        · rw [getD_set, if_neg (fun h => hrd h.1)]
          exact hdp hn0 hd0
        · rw [getD_set, if_neg (fun h => hrd h.1)]
          exact hisd
  · exact h2.elim

theorem pure_load (hI : Inv w0 L0 N vs T a w L) (hC : CtxOk P C) {o : Oper} {X : TypeId} {t d : Nat} {v : V} {log : List Nat} (ho : o.op = .load X (.tmp t))
    (hid : (T.getD d .dead).idle = true) (h : (M.get t (loadV C X t)).Runs T v log) (hvs : ∀ r, v.on r = true → r ∈ vs) : PureRes P o vs T a w L d v := by
  obtain ⟨log', rfl, h⟩ := h
  have hs := hI.slots t
  generalize hv : T.getD t .dead = u at h hs
  cases u with
  | rp l t' x =>
    simp only [loadV] at h
    split at h
    · rename_i hT
      obtain ⟨rfl, _⟩ := h
      obtain ⟨h0, g, o', cs, h1, h2, h3, h4⟩ := hs
      obtain ⟨c, hc, hf⟩ := (hC X t' hT).run_loadVar (w := w) (g := g) (o := o') (Rd.len h3) h4
      have h1' : a.eval (.tmp t) = _ := h1
      refine ⟨c, w, L, by simp [execOp, ho, h1', Instr.loadAt, Instr.sureAddr, hc], Grows.refl hI d, fun k q hk h => (by rw [hI.free k hk] at h; cases h), hvs, ?_⟩
      refine ⟨fun r hr => ?_, cs, hf, Own.of_rd h3⟩
      have := h0 r hr
      rw [getD_set, if_neg (fun h => idle_ne hid (V.owns_of_deep this) h.1)]
      exact this
    · exact h.elim
  | ptr r p t' =>
    obtain ⟨g, h1, h2⟩ := hs
    exact pure_loadAt hI hC ho hid ⟨g, h1, h2⟩ h hvs
  | box l n t' x =>
    obtain ⟨_, g, cur, e, h1, h2, _⟩ := hs
    exact pure_loadAt hI hC ho hid (r := t) (p := []) ⟨g, h1, h2⟩ h hvs
  | dead => exact h.elim
  | tup _ => exact h.elim
  | d _ _ _ _ => exact h.elim
  | view _ _ _ => exact h.elim
  | hole _ _ => exact h.elim
  | part _ _ _ _ _ => exact h.elim

/-- What a view shows. -/
theorem view_own (hI : Inv w0 L0 N vs T a w L) {r : Nat} {p : List St} {t : Ty} {c : Value} {l : Option Nat} {n' : Nat} {x' : t.den} {log : List Nat}
    (hv : SRep L T a.tmps s (.view r p t) w c) (hr : (viewD p (T.getD r .dead)).Runs T (l, ⟨n', t, x'⟩) log) :
    ∃ cs, Form t cs c ∧ Own w L (SL L l) r n' t x' (node [] 0 p).1 (node [] 0 p).2 cs ∧ (∀ r, l = some r → (T.getD r .dead).deep = true) ∧ (T.getD r .dead).deep = true := by
  obtain ⟨hdp, hv⟩ := hv
  have hs := hI.slots r
  rcases hv with ⟨rfl, hc, l0, n0, x0, hd, hown⟩ | ⟨g, cur, e, hp, h1, h2, h3, h4⟩
  · rw [hd] at hr hs
    obtain ⟨hr, _⟩ := hr
    cases hr
    obtain ⟨h0, cs, hf, ho⟩ := hs
    exact ⟨cs, by rw [hc]; exact hf, ho, h0, hdp⟩
  · have key : ∀ {log : List Nat}, (rootD p (T.getD r .dead)).Runs T (l, ⟨n', t, x'⟩) log → _ := fun hr => rootD_inB hr hs
    have hroot : (∃ log, (rootD p (T.getD r .dead)).Runs T (l, ⟨n', t, x'⟩) log) ∨ p = [] := by
      generalize T.getD r .dead = u at hr
      cases u with
      | d l0 n0 t0 x0 =>
        simp only [viewD] at hr
        split at hr
        · exact .inr rfl
        · exact .inl ⟨_, hr⟩
        · exact hr.elim
      | box l0 n0 t0 x0 => exact .inl ⟨_, hr⟩
      | dead => exact .inl ⟨_, hr⟩
      | tup _ => exact .inl ⟨_, hr⟩
      | rp _ _ _ => exact .inl ⟨_, hr⟩
      | ptr _ _ _ => exact .inl ⟨_, hr⟩
      | view _ _ _ => exact .inl ⟨_, hr⟩
      | hole _ _ => exact .inl ⟨_, hr⟩
      | part _ _ _ _ _ => exact .inl ⟨_, hr⟩
    rcases hroot with ⟨log, hroot⟩ | rfl
    · obtain ⟨⟨g', cur', e', k1, k2, k3, k4⟩, hl, _, _, _⟩ := key hroot
      obtain rfl := hI.inj g g' r _ h1 k1
      rw [h2] at k2
      injection k2 with k2
      injection k2 with k2 _ _
      subst k2
      exact ⟨_, h4, k4, hl, hdp⟩
    · -- the root is a box: its own row
      generalize hu : T.getD r .dead = u at hr hs hdp hp
      cases u with
      | box l0 n0 t0 x0 =>
        have hroot : (rootD [] (.box l0 n0 t0 x0)).Runs T (l, ⟨n', t, x'⟩) log := hr
        obtain ⟨⟨g', cur', e', k1, k2, k3, k4⟩, hl, _, _, _⟩ := rootD_inB hroot hs
        obtain rfl := hI.inj g g' r _ h1 k1
        rw [h2] at k2
        injection k2 with k2
        injection k2 with k2 _ _
        subst k2
        exact ⟨_, h4, k4, hl, hdp⟩
      | d l0 n0 t0 x0 => rcases hp with hp | hp <;> simp [V.isD] at hp
      | dead => exact hr.elim
      | tup _ => exact hr.elim
      | rp _ _ _ => exact hr.elim
      | ptr _ _ _ => exact hr.elim
      | view _ _ _ => exact hr.elim
      | hole _ _ => exact hr.elim
      | part _ _ _ _ _ => exact hr.elim
end
end Go.Proofs.Ytdfcejijcnhcaaa.C.Am
