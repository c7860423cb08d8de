/- A part of the proof: Am9. No conditions. -/
import Derived.Test.YtdfcejijcnhcaaaCAm8
set_option linter.unusedVariables false
set_option linter.unusedSimpArgs false
namespace Go.Proofs.Ytdfcejijcnhcaaa.C.Am

/-! ## 9. Addresses, lengths, new memory -/
def aggOf (C : Ctx) (X : TypeId) : Option Ty := match C.ty X with
  | some (.agg t) => some t
  | _ => none

def sliceOf (C : Ctx) (X : TypeId) : Option Ty := match C.ty X with
  | some (.slice _ t) => some t
  | _ => none

def fieldAddrV (C : Ctx) (X : TypeId) (f : Nat) (t : Nat) : V → M V
  | .ptr r p _ => match aggOf C X with
    | some ta => match compT f ta with
      | some (off, t1) => .ret (.ptr r (p ++ [.fld f off]) t1)
      | none => .fail
    | none => .fail
  | .box _ _ _ _ => match aggOf C X with
    | some ta => match compT f ta with
      | some (off, t1) => .ret (.ptr t [.fld f off] t1)
      | none => .fail
    | none => .fail
  | .rp l t' x => match t', x with
    | .agg ta, x => if aggOf C X = some ta then match comp f ta x with
        | some (_, ⟨t1, x1⟩) => .ret (.rp l t1 x1)
        | none => .fail
      else .fail
    | _, _ => .fail
  | _ => .fail

def nilCheckV (t : Nat) : V → M V
  | .ptr r p t' => .ret (.ptr r p t')
  | .rp l t' x => .ret (.rp l t' x)
  | .box _ _ t' _ => .ret (.ptr t [] t')
  | _ => .fail

/-- An element's address; xs is the row that is looked at. -/
def indexAddrV (C : Ctx) (X : TypeId) (t : Nat) (i : Int) : V → M V
  | .d l n t' x => match t', x with
    | .slice _ te, xs => if sliceOf C X = some te then .bnd te (getI xs i) fun y => if n = 0 then .ret (.rp l te y) else .ret (.ptr t [.idx te.sz i] te)
      else .fail
    | _, _ => .fail
  | .view r p t' => .get r fun u => (viewD p u).bind fun z => match z.2 with
    | ⟨n, .slice e te, xs⟩ => if .slice e te = t' ∧ sliceOf C X = some te ∧ n ≠ 0 then .bnd te (getI xs i) fun _ => .ret (.ptr r (p ++ [.idx te.sz i]) te) else .fail
    | _ => .fail
  | _ => .fail

def getB (s : ByteArray) (i : Int) : Option Int := if 0 ≤ i then (s[i.toNat]?).map fun b => (b.toNat : Int) else none

def lenV (tx : Ty) (t : Nat) (v : V) : M V :=
  match tx with
  | .slice _ _ => (readD t v).bind fun z => match z.2 with
    | ⟨.slice _ _, xs⟩ => .ret (.d none 0 (.int .i64) (xs.length : Int))
    | _ => .fail
  | .str => match v with
    | .d _ _ .str s => .ret (.d none 0 (.int .i64) (s.size : Int))
    | _ => .fail
  | _ => .fail

section
variable {P : Program} {C : Ctx} {w w' w0 : World} {S S' : Nat → Prop} {L L' L0 : Nat → Lab} {s N : Nat} {vs : List Nat} {T T' : List V} {tm tm' : Array Value} {a : Act}

theorem PureRes.ptr (hI : Inv w0 L0 N vs T a w L) {o : Oper} {r d g : Nat} {p : List St} {t : Ty} (hrun : (execOp a.eval o).run P w = .ok (.value (.pointer (some ⟨g, (node [] 0 p).2, none⟩))) w)
    (hg : L g = .own r (node [] 0 p).1) (hvs : ∀ r', (V.ptr r p t).on r' = true → r' ∈ vs) : PureRes P o vs T a w L d (.ptr r p t) :=
  ⟨_, w, L, hrun, Grows.refl hI d, fun k q hk h => (by rw [hI.free k hk] at h; cases h), hvs, g, rfl, hg⟩

theorem run_fieldAt (hC : CtxOk P C) {X : TypeId} {f g o off : Nat} {ta t1 : Ty} (h1 : aggOf C X = some ta) (h2 : compT f ta = some (off, t1)) :
    (Instr.fieldAt X (.pointer (some ⟨g, o, none⟩)) f).run P w = .ok (.pointer (some ⟨g, o + off, none⟩)) w := by
  unfold aggOf at h1
  split at h1
  · rename_i t' ht
    injection h1 with h1
    subst h1
    obtain ⟨⟨fs, hu, hf, hn⟩, _⟩ := (hC X _ ht).und
    have hlt := hn f _ h2
    have hfs : fs[f]? = some fs[f] := Array.getElem?_eq_getElem hlt
    obtain ⟨t2, h3, h4, h5, _⟩ := hf f _ hfs
    rw [h2] at h3
    simp only [Option.some.injEq, Prod.mk.injEq] at h3
    obtain ⟨rfl, rfl⟩ := h3
    have hs := (hC _ _ h4).run_sizeOf (w := w)
    simp [Instr.fieldAt, run_underlying hu, hlt, Instr.sureAddr, fieldPlace, hs, h5, Addr.add_lit]
  · cases h1

theorem node_fld (q : List Nat) (o : Nat) (p : List St) (f off : Nat) : node q o (p ++ [.fld f off]) = ((node q o p).1, (node q o p).2 + off) := by
  rw [node_append]; rfl

theorem pure_fieldAddr (hI : Inv w0 L0 N vs T a w L) (hC : CtxOk P C) {o : Oper} {X : TypeId} {t f d : Nat} {v : V} {log : List Nat} (ho : o.op = .fieldAddr X (.tmp t) f)
    (hid : (T.getD d .dead).idle = true) (h : (M.get t (fieldAddrV C X f t)).Runs T v log) (hvs : ∀ r, v.on r = true → r ∈ vs) : PureRes P o vs T a w L d v := by
  obtain ⟨log', rfl, h⟩ := h
  have hs := hI.slots t
  generalize hv : T.getD t .dead = u at h hs
  have key : ∀ {g o' off : Nat} {ta t1 : Ty}, a.tmps.getD t undef = .pointer (some ⟨g, o', none⟩) → aggOf C X = some ta → compT f ta = some (off, t1) →
      (execOp a.eval o).run P w = .ok (.value (.pointer (some ⟨g, o' + off, none⟩))) w := by
    intro g o' off ta t1 h1 h2 h3
    have h1' : a.eval (.tmp t) = _ := h1
    simp [execOp, ho, h1', run_fieldAt hC h2 h3]
  cases u with
  | ptr r p t' =>
    simp only [fieldAddrV] at h
    obtain ⟨g, h1, h2⟩ := hs
    split at h
    · rename_i ta hta
      split at h
      · rename_i off t1 hc
        obtain ⟨rfl, _⟩ := h
        refine PureRes.ptr hI (g := g) ?_ ?_ hvs
        · rw [key h1 hta hc, node_fld]
        · rw [node_fld]; exact h2
      · exact h.elim
    · exact h.elim
  | box l n t' x =>
    simp only [fieldAddrV] at h
    obtain ⟨_, g, cur, e, h1, h2, _⟩ := hs
    split at h
    · rename_i ta hta
      split at h
      · rename_i off t1 hc
        obtain ⟨rfl, _⟩ := h
        refine PureRes.ptr hI (g := g) ?_ ?_ hvs
        · rw [key h1 hta hc]; rfl
        · exact h2
      · exact h.elim
    · exact h.elim
  | rp l t' x =>
    simp only [fieldAddrV] at h
    cases t' <;> try exact h.elim
    rename_i ta
    simp only at h
    split at h
    · rename_i hta
      split at h
      · rename_i off t1 x1 hc
        obtain ⟨rfl, _⟩ := h
        obtain ⟨h0, g, o', cs, h1, h2, h3, h4⟩ := hs
        simp only [Rd] at h3
        have hcT : compT f ta = some (off, t1) := comp_compT hc
        obtain ⟨h5, h6⟩ := comp_own (n := 0) (q := []) (o := 0) (L := L) (s := 0) hc (Own.of_rd h3)
        refine ⟨_, w, L, key h1 hta hcT, Grows.refl hI d, fun k q hk h => (by rw [hI.free k hk] at h; cases h), hvs, ?_⟩
        refine ⟨fun r hr => ?_, g, o' + off, _, rfl, h2, Own.rd0 h6, fun i v hv => ?_⟩
        · have := h0 r hr
          rw [getD_set, if_neg (fun h => idle_ne hid (V.owns_of_deep this) h.1)]
          exact this
        · rw [List.getElem?_take] at hv
          split at hv
          · rw [List.getElem?_drop] at hv
            rw [Nat.add_assoc]
            exact h4 _ _ hv
          · cases hv
      · exact h.elim
    · exact h.elim
  | dead => exact h.elim
  | tup _ => exact h.elim
  | d _ _ _ _ => exact h.elim
  | view _ _ _ => exact h.elim
  | hole _ _ => exact h.elim
  | part _ _ _ _ _ => exact h.elim
  where
  comp_compT : {i : Nat} → {t : Ty} → {x : t.den} → {o1 : Nat} → {t1 : Ty} → {x1 : t1.den} → comp i t x = some (o1, ⟨t1, x1⟩) → compT i t = some (o1, t1) := by
    intro i t x o1 t1 x1 h
    have hne : ∃ r, compT i t = some r := by
      clear hC
      revert x
      induction t generalizing i o1 with
      | pair a b iha ihb =>
        intro x h
        cases i with
        | zero => exact ⟨_, rfl⟩
        | succ i =>
          simp only [comp, Option.map_eq_some_iff] at h
          obtain ⟨⟨o2, t2, x2⟩, h, he⟩ := h
          simp only [Prod.mk.injEq] at he
          obtain ⟨rfl, he⟩ := he
          cases he
          obtain ⟨r, hr⟩ := ihb h
          exact ⟨(a.sz + r.1, r.2), by simp [compT, hr]⟩
      | _ => intro x h; cases i <;> simp_all [comp, compT]
    obtain ⟨⟨o2, t2⟩, hr⟩ := hne
    obtain ⟨x2, hx2⟩ := compT_comp (x := x) hr
    rw [h] at hx2
    simp only [Option.some.injEq, Prod.mk.injEq] at hx2
    obtain ⟨rfl, hx2⟩ := hx2
    cases hx2
    exact hr

theorem pure_nilCheck (hI : Inv w0 L0 N vs T a w L) {o : Oper} {t d : Nat} {v : V} {log : List Nat} (ho : o.op = .nilCheck (.tmp t))
    (hid : (T.getD d .dead).idle = true) (h : (M.get t (nilCheckV t)).Runs T v log) (hvs : ∀ r, v.on r = true → r ∈ vs) : PureRes P o vs T a w L d v := by
  obtain ⟨log', rfl, h⟩ := h
  have hs := hI.slots t
  generalize hv : T.getD t .dead = u at h hs
  have key : ∀ {g o' : Nat}, a.tmps.getD t undef = .pointer (some ⟨g, o', none⟩) → (execOp a.eval o).run P w = .ok (.value (.pointer (some ⟨g, o', none⟩))) w := by
    intro g o' h1
    have h1' : a.eval (.tmp t) = _ := h1
    simp [execOp, ho, h1']
  cases u with
  | ptr r p t' =>
    obtain ⟨rfl, _⟩ := h
    obtain ⟨g, h1, h2⟩ := hs
    exact PureRes.ptr hI (g := g) (key h1) h2 hvs
  | rp l t' x =>
    obtain ⟨rfl, _⟩ := h
    obtain ⟨h0, g, o', cs, h1, h2, h3, h4⟩ := hs
    refine ⟨_, w, L, key h1, Grows.refl hI d, fun k q hk h => (by rw [hI.free k hk] at h; cases h), hvs, fun r hr => ?_, g, o', cs, rfl, h2, h3, h4⟩
    have := h0 r hr
    rw [getD_set, if_neg (fun h => idle_ne hid (V.owns_of_deep this) h.1)]
    exact this
  | box l n t' x =>
    obtain ⟨rfl, _⟩ := h
    obtain ⟨_, g, cur, e, h1, h2, _⟩ := hs
    exact PureRes.ptr hI (g := g) (p := []) (key h1) h2 hvs
  | dead => exact h.elim
  | tup _ => exact h.elim
  | d _ _ _ _ => exact h.elim
  | view _ _ _ => exact h.elim
  | hole _ _ => exact h.elim
  | part _ _ _ _ _ => exact h.elim

theorem run_indexAt (hC : CtxOk P C) {X : TypeId} {te : Ty} {g o len cap : Nat} {i : Int} {k : IntKind} (h1 : sliceOf C X = some te) (h0 : 0 ≤ i) (hi : i.toNat < len) :
    (Instr.indexAt X (.slice (some ⟨g, o, none⟩) len cap) (.int k i)).run P w = .ok (.pointer (some ⟨g, o + i.toNat * te.sz, none⟩)) w := by
  unfold sliceOf at h1
  split at h1
  · rename_i e te' ht
    injection h1 with h1
    subst h1
    obtain ⟨hu, he⟩ := (hC X _ ht).und
    have hs := (hC _ _ he).run_sizeOf (w := w)
    simp [Instr.indexAt, run_underlying hu, asIntOf, hs, Addr.add_lit]
    intro hle
    exact absurd (hle h0) (by omega)
  · cases h1

theorem pure_indexAddr (hI : Inv w0 L0 N vs T a w L) (hC : CtxOk P C) {o : Oper} {X Y : TypeId} {t d : Nat} {y : Operand} {k : IntKind} {i : Int} {v : V} {log : List Nat} (ho : o.op = .indexAddr X (.tmp t) y)
    (hy : a.eval y = .int k i) (hid : (T.getD d .dead).idle = true) (h : (M.get t (indexAddrV C X t i)).Runs T v log) (hvs : ∀ r, v.on r = true → r ∈ vs) : PureRes P o vs T a w L d v := by
  obtain ⟨log', rfl, h⟩ := h
  have hs := hI.slots t
  generalize hv : T.getD t .dead = u at h hs
  have key : ∀ {g o' len cap : Nat} {te : Ty}, a.tmps.getD t undef = .slice (some ⟨g, o', none⟩) len cap → sliceOf C X = some te → 0 ≤ i → i.toNat < len →
      (execOp a.eval o).run P w = .ok (.value (.pointer (some ⟨g, o' + i.toNat * te.sz, none⟩))) w := by
    intro g o' len cap te h1 h2 h3 h4
    have h1' : a.eval (.tmp t) = _ := h1
    simp [execOp, ho, h1', hy, run_indexAt hC h2 h3 h4]
  cases u with
  | d l n t' x =>
    simp only [indexAddrV] at h
    cases t' <;> try exact h.elim
    rename_i e te
    simp only at h
    split at h
    · rename_i hte
      obtain ⟨y0, hy0, h⟩ := h
      obtain ⟨hi, hi0, rfl⟩ := getI_some hy0
      obtain ⟨h0, cs, hf, hown⟩ := hs
      split at h
      · rename_i hn
        subst hn
        obtain ⟨rfl, _⟩ := h
        simp only [Own, Rd] at hown
        obtain ⟨A, c, rfl, h1, h2, h3⟩ := hown
        obtain ⟨g, o', rfl, hS, hel⟩ := h3 (by rintro rfl; simp at hi)
        have hc : a.tmps.getD t undef = _ := ((List.cons.inj hf).1).symm
        obtain ⟨es, he1, he2⟩ := hel _ hi
        refine ⟨_, w, L, key hc hte hi0 hi, Grows.refl hI d, fun k q hk h => (by rw [hI.free k hk] at h; cases h), hvs, fun r hr => ?_, g, _, es, rfl, hS, he1, fun i v hv => ?_⟩
        · have := h0 r hr
          rw [getD_set, if_neg (fun h => idle_ne hid (V.owns_of_deep this) h.1)]
          exact this
        · rw [Nat.add_assoc]
          exact he2 i v hv
      · rename_i hn
        obtain ⟨rfl, _⟩ := h
        obtain ⟨m, rfl⟩ : ∃ m, n = m + 1 := ⟨n - 1, by omega⟩
        simp only [Own] at hown
        rcases hown with ⟨_, rfl⟩ | ⟨g, cap, cur, rfl, hL, _⟩
        · simp at hi
        · have hc : a.tmps.getD t undef = _ := ((List.cons.inj hf).1).symm
          refine PureRes.ptr hI (g := g) ?_ hL hvs
          rw [key hc hte hi0 hi]
          simp [node]
    · exact h.elim
  | view r p t' =>
    obtain ⟨log2, rfl, h⟩ := h
    obtain ⟨⟨l, n, t2, xs⟩, l1, l2, rfl, h1, h2⟩ := M.runs_bind h
    cases t2 <;> try exact h2.elim
    rename_i e te
    simp only at h2
    split at h2
    · rename_i hte
      obtain ⟨rfl, hte, hn⟩ := hte
      obtain ⟨y0, hy0, h2⟩ := h2
      obtain ⟨hi, hi0, rfl⟩ := getI_some hy0
      obtain ⟨rfl, _⟩ := h2
      obtain ⟨cs, hf, hown, _⟩ := view_own hI hs h1
      obtain ⟨m, rfl⟩ : ∃ m, n = m + 1 := ⟨n - 1, by omega⟩
      simp only [Own] at hown
      rcases hown with ⟨_, rfl⟩ | ⟨g, cap, cur, rfl, hL, _⟩
      · simp at hi
      · have hc : a.tmps.getD t undef = _ := ((List.cons.inj hf).1).symm
        refine PureRes.ptr hI (g := g) ?_ ?_ hvs
        · rw [key hc hte hi0 hi, node_append]
          simp [node]
        · rw [node_append]
          exact hL
    · exact h2.elim
  | dead => exact h.elim
  | tup _ => exact h.elim
  | rp _ _ _ => exact h.elim
  | ptr _ _ _ => exact h.elim
  | box _ _ _ _ => exact h.elim
  | hole _ _ => exact h.elim
  | part _ _ _ _ _ => exact h.elim
end
end Go.Proofs.Ytdfcejijcnhcaaa.C.Am
