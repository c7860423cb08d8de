/- A part of the proof: Am10. No conditions. -/
import Derived.Test.YtdfcejijcnhcaaaCAm9
import Derived.IntWalk
set_option linter.unusedVariables false
set_option linter.unusedSimpArgs false
namespace Go.Proofs.Ytdfcejijcnhcaaa.C.Am

/-! ## 10. Lengths, parts of rows, new memory -/
def sliceV (C : Ctx) (X : TypeId) (t : Nat) (lo : Int) (hi : Option Int) (v : V) : M V :=
  match v with
  | .d _ _ .str s => if C.ty X = some .str then .chk (decide (0 ≤ lo) && decide (lo ≤ hi.getD s.size) && decide (hi.getD s.size ≤ s.size)) (.ret (.d none 0 .str (s.extract lo.toNat (hi.getD s.size).toNat))) else .fail
  | v => (readD t v).bind fun z => match z with
    | (l, ⟨.slice e te, xs⟩) => if sliceOf C X = some te then
        .chk (decide (0 ≤ lo) && decide (lo ≤ hi.getD (xs.length : Int)) && decide (hi.getD (xs.length : Int) ≤ (xs.length : Int)))
          (.ret (.d l 0 (.slice e te) ((xs.take (hi.getD (xs.length : Int)).toNat).drop lo.toNat)))
      else .fail
    | _ => .fail

def makeV (C : Ctx) (X : TypeId) (n c : Int) : M V :=
  match C.ty X with
  | some (.slice e te) => .chk (decide (0 ≤ n) && decide (n ≤ c) && decide (c * C.bytes e ≤ 140737488355328) && decide (c ≤ 9223372036854775807)) (.ret (.d none (te.depth + 1) (.slice e te) (List.replicate n.toNat te.zero)))
  | _ => .fail

def allocV (C : Ctx) (X : TypeId) : M V :=
  match C.ty X with
  | some t => .ret (.box none t.depth t t.zero)
  | none => .fail

section
variable {P : Program} {C : Ctx} {w w' w0 : World} {S S' : Nat → Prop} {L L' L0 : Nat → Lab} {s N : Nat} {vs : List Nat} {T T' : List V} {tm tm' : Array Value} {a : Act}

theorem readD_rd (hI : Inv w0 L0 N vs T a w L) {t : Nat} {l : Option Nat} {t' : Ty} {x : t'.den} {v : V} {c : Value} {log : List Nat}
    (h : (readD t v).Runs T (l, ⟨t', x⟩) log) (hs : SRep L T a.tmps t v w c) (hv : v.owns = true → v = T.getD t .dead) :
    ∃ cs, Form t' cs c ∧ Rd w (SL L l) t' x cs ∧ ∀ r, l = some r → (T.getD r .dead).deep = true := by
  cases v with
  | d l0 n0 t0 x0 =>
    simp only [readD] at h
    obtain ⟨h0, cs, hf, hown⟩ := hs
    split at h
    · rename_i hn
      obtain ⟨h, _⟩ := h
      cases h
      exact ⟨cs, hf, Own.rd0 (Own.at0 (s' := 0) (q' := []) (o' := 0) (n' := 0) hn hown (.inl rfl)), h0⟩
    · rename_i hn
      have hn' := not_or.1 hn
      split at h
      · obtain ⟨h, _⟩ := h
        cases h
        refine ⟨cs, hf, Own.rd (fun k q hk => .inr ⟨t, q, rfl, hk⟩) (fun k hk => ?_) hown, fun r hr => ?_⟩
        · rcases hk with hk | ⟨_, _, hk, _⟩
          · exact .inl hk
          · cases hk
        · cases hr
          rw [← hv (by simp [V.owns, hn'])]
          simp [V.deep, hn']
      · exact h.elim
  | view r p t2 =>
    obtain ⟨log', rfl, h⟩ := h
    obtain ⟨⟨l0, n0, t0, x0⟩, l1, l2, rfl, h1, h2⟩ := M.runs_bind h
    simp only at h2
    split at h2
    · split at h2
      · rename_i ht
        subst ht
        obtain ⟨h2, _⟩ := h2
        cases h2
        obtain ⟨cs, hf, hown, _, hdp⟩ := view_own hI hs h1
        refine ⟨cs, hf, Own.rd (fun k q hk => .inr ⟨r, q, rfl, hk⟩) (fun k hk => ?_) hown, fun r' hr => ?_⟩
        · rcases hk with hk | ⟨_, _, hk, _⟩
          · exact .inl hk
          · cases hk
        · cases hr; exact hdp
      · exact h2.elim
    · exact h2.elim
  | dead => exact h.elim
  | tup _ => exact h.elim
  | rp _ _ _ => exact h.elim
  | ptr _ _ _ => exact h.elim
  | box _ _ _ _ => exact h.elim
  | hole _ _ => exact h.elim
  | part _ _ _ _ _ => exact h.elim

theorem pure_len (hI : Inv w0 L0 N vs T a w L) (hC : CtxOk P C) {o : Oper} {X : TypeId} {t d : Nat} {tx : Ty} {v : V} {log : List Nat} (ho : o.op = .call { callee := .builtin .len, args := #[.tmp t], argTypes := #[X] })
    (hX : C.ty X = some tx) (h : (M.get t (lenV tx t)).Runs T v log) : PureRes P o vs T a w L d v := by
  obtain ⟨log', rfl, h⟩ := h
  have hs := hI.slots t
  have key : ∀ c, (Builtin.len_ #[X] o.type #[a.eval (.tmp t)]).run P w = .ok c w → (execOp a.eval o).run P w = .ok (.value c) w := by
    intro c hc
    simp [execOp, ho, resolve, invoke, builtin, hc]
  unfold lenV at h
  split at h
  · obtain ⟨⟨l, t2, x2⟩, l1, l2, rfl, h1, h2⟩ := M.runs_bind h
    cases t2 <;> try exact h2.elim
    obtain ⟨rfl, _⟩ := h2
    obtain ⟨cs, hf, hr, _⟩ := readD_rd hI h1 hs (fun _ => rfl)
    simp only [Rd] at hr
    obtain ⟨A, c, rfl, _⟩ := hr
    have hc : a.eval (.tmp t) = _ := ((List.cons.inj hf).1).symm
    refine PureRes.still hI (key _ ?_) (fun _ => rfl) SRep.mkInt
    rw [hc]
    have hu := (hC X _ hX).und
    simp [Builtin.len_, run_underlying hu.1, goInt]
  · split at h
    · rename_i l n sx hv
      obtain ⟨rfl, _⟩ := h
      rw [hv] at hs
      have hc : a.eval (.tmp t) = _ := hs.str
      refine PureRes.still hI (key _ ?_) (fun _ => rfl) SRep.mkInt
      rw [hc]
      have hu := (hC X _ hX).und
      simp [Builtin.len_, run_underlying hu, goInt]
    · exact h.elim
  · exact h.elim

/-- A new block of slot d's own. -/
theorem Grows.alloc (hI : Inv w0 L0 N vs T a w L) (d : Nat) (q : List Nat) (ob : Obj) : Grows w (w.alloc ob) L (fun k => if k = w.heap.size then .own d q else L k) d := by
  refine ⟨rfl, rfl, rfl, by simp, fun k hk => ?_, fun k s q' hk h => ?_, fun k k' q' hk hk' h h' => ?_, fun k hk => ?_⟩
  · rw [if_neg (by omega)]
    exact ⟨rfl, Go.RowKit.Below.heap_alloc w ob k hk⟩
  · split at h
    · injection h with h _; exact h.symm
    · rw [hI.free k hk] at h; cases h
  · split at h
    · split at h'
      · omega
      · rw [hI.free k' hk'] at h'; cases h'
    · rw [hI.free k hk] at h; cases h
  · simp at hk
    rw [if_neg (by omega)]
    exact hI.free k (by omega)

theorem Form.cells {t : Ty} {cs : List Value} {c : Value} (h : Form t cs c) (h1 : ∀ v ∈ cs, v.oneCell' = true) : c.cells.toList = cs := by
  have key : cs = [c] → c.cells.toList = cs := fun h => by
    subst h
    have := h1 c (by simp)
    cases c <;> simp_all [Value.cells, Value.oneCell']
  cases t <;> first | exact key h | (simp only [Form] at h; subst h; rfl)

theorem heap_new (w : World) (ob : Obj) : (w.alloc ob).heap[w.heap.size]? = some ob := by
  show (w.heap.push ob)[w.heap.size]? = _
  simp

theorem pure_alloc (hI : Inv w0 L0 N vs T a w L) (hC : CtxOk P C) {o : Oper} {X : TypeId} {d : Nat} {v : V} {log : List Nat} (ho : o.op = .alloc X)
    (h : (allocV C X).Runs T v log) : PureRes P o vs T a w L d v := by
  unfold allocV at h
  split at h
  · rename_i t hX
    obtain ⟨rfl, _⟩ := h
    obtain ⟨i, z, h1, h2, h3, h4, h5⟩ := (hC X t hX).info
    have hone : ∀ v ∈ t.zcells, v.oneCell' = true := Own.one (Own.zero (w := w) (L := L) (S := fun _ => True) (s := 0) (n := 0) (t := t) (q := []) (o := 0))
    have hcz := Form.cells h5 hone
    refine ⟨.pointer (some ⟨w.heap.size, 0, none⟩), w.alloc (.cells z.cells X), _, ?_, Grows.alloc hI d [] _, fun _ _ _ _ => rfl, fun r hr => (by simp [V.on, V.root] at hr), ?_⟩
    · simp [execOp, ho, Instr.alloc, zeroValue, Go.run_typeInfo w h1, h4, newVar, newRow, newObj, Sem.run]
    · refine ⟨by simp, w.heap.size, z.cells, X, rfl, by simp, heap_new _ _, ?_, ?_⟩
      · rw [← Array.length_toList, hcz, Ty.zcells_len]
      · rw [hcz]; exact Own.zero
  · exact h.elim

theorem madeZero (cz : Array Value) (n : Nat) : ∀ j, j < n → (((Array.range (n * cz.size)).map (cz[· % cz.size]!)).toList.drop (j * cz.size)).take cz.size = cz.toList := by
  intro j hj
  apply List.ext_getElem?
  intro i
  rw [List.getElem?_take, List.getElem?_drop]
  have hb : j * cz.size + cz.size ≤ n * cz.size := by
    calc j * cz.size + cz.size = (j + 1) * cz.size := by rw [Nat.add_mul, Nat.one_mul]
      _ ≤ n * cz.size := Nat.mul_le_mul_right _ hj
  split
  · rename_i hi
    have h2 : (j * cz.size + i) % cz.size = i := by rw [Nat.add_comm, Nat.add_mul_mod_self_right, Nat.mod_eq_of_lt hi]
    simp only [Array.toList_map, Array.toList_range, List.getElem?_map, List.getElem?_range (show j * cz.size + i < n * cz.size by omega), Option.map_some, h2, Array.getElem?_toList]
    rw [Array.getElem?_eq_getElem hi]
    simp [hi]
  · rename_i hi
    rw [List.getElem?_eq_none (by simpa using hi)]

theorem pure_make (hI : Inv w0 L0 N vs T a w L) (hC : CtxOk P C) {o : Oper} {X : TypeId} {x y : Operand} {n c : Int} {k1 k2 : IntKind} {d : Nat} {v : V} {log : List Nat} (ho : o.op = .makeSlice X x y)
    (hx : a.eval x = .int k1 n) (hy : a.eval y = .int k2 c) (h : (makeV C X n c).Runs T v log) : PureRes P o vs T a w L d v := by
  unfold makeV at h
  split at h
  · rename_i e te hX
    obtain ⟨hc, rfl, _⟩ := h
    simp only [Bool.and_eq_true, decide_eq_true_eq] at hc
    obtain ⟨⟨⟨hn0, hnc⟩, hb⟩, hm⟩ := hc
    obtain ⟨hu, he⟩ := (hC X _ hX).und
    obtain ⟨i, z, h1, h2, h3, h4, h5⟩ := (hC e te he).info
    have hone : ∀ v ∈ te.zcells, v.oneCell' = true := Own.one (Own.zero (w := w) (L := L) (S := fun _ => True) (s := 0) (n := 0) (t := te) (q := []) (o := 0))
    have hcz := Form.cells h5 hone
    have hsz : z.cells.size = te.sz := by rw [← Array.length_toList, hcz, Ty.zcells_len]
    have wn : IntKind.i64.wrap n = n := IntWalk.i64_in _ (by omega)
    have wc : IntKind.i64.wrap c = c := IntWalk.i64_in _ (by omega)
    let cur : Array Value := (Array.range (c.toNat * te.sz)).map (z.cells[· % z.cells.size]!)
    refine ⟨.slice (some ⟨w.heap.size, 0, none⟩) n.toNat c.toNat, w.alloc (.cells cur e), _, ?_, Grows.alloc hI d [0] _, fun _ _ _ _ => (by simp [V.owns, Ty.depth]), fun r hr => (by simp [V.on, V.root] at hr), ?_⟩
    · have hroom : ¬ (c.toNat * i.bytes > roomBytes) := by
        rw [h3]
        unfold roomBytes
        have : ((c.toNat * C.bytes e : Nat) : Int) ≤ 140737488355328 := by
          rw [Int.natCast_mul, Int.toNat_of_nonneg (by omega)]
          exact hb
        omega
      have hlarge : ¬ (c < 0 ∨ (i.bytes : Int) * c > 2 ^ 48) := by
        rw [h3, Int.mul_comm]
        omega
      have hcond : ¬ ((decide (c < 0) || decide ((i.bytes : Int) * c > 2 ^ 48)) = true ∨ n < 0 ∨ n > c) := by
        simp only [Bool.or_eq_true, decide_eq_true_eq]
        omega
      by_cases hz : c.toNat * te.sz = 0
      · have hcur : cur = #[] := by
          show (Array.range (c.toNat * te.sz)).map (z.cells[· % z.cells.size]!) = #[]
          rw [hz]; simp
        rw [hcur]
        simp only [execOp, ho, Instr.makeSlice, hx, hy, asInt, asIntOf, Sem.run_bind, run_underlying hu, Result.andThen_ok, Sem.run_pure, Go.run_typeInfo w h1, wn, wc, Sem.run_ite]
        rw [if_neg (by simp only [Bool.or_eq_true, decide_eq_true_eq] at hcond ⊢; omega)]
        simp [askRoom, hroom, (hC e te he).run_sizeOf, hz, newRow, newObj, Sem.run, Array.range_zero']
      · simp only [execOp, ho, Instr.makeSlice, hx, hy, asInt, asIntOf, Sem.run_bind, run_underlying hu, Result.andThen_ok, Sem.run_pure, Go.run_typeInfo w h1, wn, wc, Sem.run_ite]
        rw [if_neg (by simp only [Bool.or_eq_true, decide_eq_true_eq] at hcond ⊢; omega)]
        simp [askRoom, hroom, (hC e te he).run_sizeOf, hz, newRow, newObj, Sem.run, zeroValue, Go.run_typeInfo w h1, h4, cur]
    · refine ⟨by simp, _, rfl, ?_⟩
      simp only [Own]
      refine .inr ⟨w.heap.size, c.toNat, cur, by simp, by simp, heap_new _ _, by simp; omega, by unfold maxLen; omega, by simp [cur], fun j hj => ?_⟩
      simp only [List.length_replicate] at hj
      have hcell : ((cur.toList.drop (j * te.sz)).take te.sz) = te.zcells := by
        have := madeZero z.cells c.toNat j (by omega)
        rw [hsz] at this
        rw [← hcz]
        show (((Array.range (c.toNat * te.sz)).map (z.cells[· % z.cells.size]!)).toList.drop (j * te.sz)).take te.sz = _
        rw [hsz]
        exact this
      rw [hcell, List.getElem_replicate]
      exact Own.zero
  · exact h.elim

end
end Go.Proofs.Ytdfcejijcnhcaaa.C.Am
