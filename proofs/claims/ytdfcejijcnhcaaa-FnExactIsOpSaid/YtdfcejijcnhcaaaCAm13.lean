/- A part of the proof: Am13. No conditions. -/
import Derived.Test.YtdfcejijcnhcaaaCAm12
set_option linter.unusedVariables false
set_option linter.unusedSimpArgs false
namespace Go.Proofs.Ytdfcejijcnhcaaa.C.Am

/-! ## 13. The pure operations are sound -/
section
variable {P : Program} {C : Ctx} {w w' w0 : World} {S S' : Nat → Prop} {L L' L0 : Nat → Lab} {s N : Nat} {vs : List Nat} {T T' : List V} {tm tm' : Array Value} {a : Act}

/-- A copied operand, whatever operation hands it on. -/
theorem move_any (hI : Inv w0 L0 N vs T a w L) {o : Oper} {x : Operand} {d : Nat} {v : V} {log : List Nat} (hrun : (execOp a.eval o).run P w = .ok (.value (a.eval x)) w) (hid : (T.getD d .dead).idle = true)
    (h : (moveM C o.type x).Runs T v log) (hvs : ∀ r, v.on r = true → r ∈ vs) : PureRes P o vs T a w L d v := by
  obtain ⟨c, w', L', h1, h2, h3, h4, h5⟩ := pure_move (P := P) (o := { o with op := .move x }) (d := d) hI rfl hid h hvs
  have : (execOp a.eval { o with op := .move x }).run P w = .ok (.value (a.eval x)) w := by simp [execOp]
  rw [this] at h1
  injection h1 with h1 h1'
  injection h1 with h1
  subst h1 h1'
  exact ⟨_, _, L', hrun, h2, h3, h4, h5⟩

theorem pure_pick (hI : Inv w0 L0 N vs T a w L) {o : Oper} {c x y : Operand} {d : Nat} {b : Bool} {v : V} {log : List Nat} (ho : o.op = .pick c x y)
    (hc : a.eval c = .bool b) (hid : (T.getD d .dead).idle = true) (h : (moveM C o.type (if b = true then x else y)).Runs T v log) (hvs : ∀ r, v.on r = true → r ∈ vs) : PureRes P o vs T a w L d v :=
  move_any hI (by cases b <;> simp [execOp, ho, hc, asBool]) hid h hvs

theorem pure_conv (hI : Inv w0 L0 N vs T a w L) (hC : CtxOk P C) {o : Oper} {src dst : TypeId} {x : Operand} {u v : V} {d : Nat} {log log2 : List Nat} (ho : o.op = .convert src dst x)
    (hx : (opnd C src x).Runs T u log) (h : (convV C src dst u).Runs T v log2) : PureRes P o vs T a w L d v := by
  unfold convV at h
  split at h
  · rename_i k0 k l n k' m hs hd
    obtain ⟨rfl, _⟩ := h
    have h1 := (hC _ _ hs).und
    have h2 := (hC _ _ hd).und
    refine PureRes.still hI ?_ (fun _ => rfl) SRep.mkInt
    simp [execOp, ho, opnd_int hI hx, convert, run_underlying h1, run_underlying h2, Conv.intToInt]
  · rename_i l n m hs hd
    obtain ⟨rfl, _⟩ := h
    have h1 := (hC _ _ hs).und
    have h2 := (hC _ _ hd).und
    refine PureRes.still hI ?_ (fun _ => rfl) SRep.mkStr
    simp [execOp, ho, opnd_str hI hx, convert, run_underlying h1, run_underlying h2]
  · exact h.elim

theorem pure_index (hI : Inv w0 L0 N vs T a w L) (hC : CtxOk P C) {o : Oper} {X : TypeId} {x y : Operand} {sx : ByteArray} {k : IntKind} {i b : Int} {d : Nat} (ho : o.op = .index X x y)
    (hX : C.ty X = some .str) (hx : a.eval x = .string sx) (hy : a.eval y = .int k i) (h : getB sx i = some b) : PureRes P o vs T a w L d (.d none 0 (.int .u8) b) := by
  unfold getB at h
  split at h
  · rename_i h0
    simp only [Option.map_eq_some_iff] at h
    obtain ⟨b0, hb, rfl⟩ := h
    refine PureRes.still hI (c := .int .u8 b0.toNat) ?_ (fun _ => rfl) SRep.mkInt
    have hu := (hC X _ hX).und
    simp [execOp, ho, Instr.index, hx, hy, asIntOf, run_underlying hu, h0, hb]
  · cases h

theorem optInt_ev (hI : Inv w0 L0 N vs T a w L) {x : Option Operand} {r : Option Int} {log : List Nat} (h : (optInt C x).Runs T r log) :
    (x = none ∧ r = none) ∨ ∃ y k i, x = some y ∧ r = some i ∧ a.eval y = .int k i := by
  cases x with
  | none => obtain ⟨rfl, _⟩ := h; exact .inl ⟨rfl, rfl⟩
  | some y =>
    obtain ⟨u, l1, l2, rfl, h1, h2⟩ := M.runs_bind h
    split at h2
    · obtain ⟨rfl, _⟩ := h2
      exact .inr ⟨y, _, _, rfl, rfl, opnd_int hI h1⟩
    · exact h2.elim

theorem run_slice {X : TypeId} {e : TypeId} {te : Ty} (hu : P.underlying X = some (.slice e)) (hs : (sizeOf e).run P w = .ok te.sz w) {A : Option Addr} {len cap : Nat} {lo hi : Option Value} {l h : Int}
    (hl : (lo = none ∧ l = 0) ∨ ∃ k, lo = some (.int k l)) (hh : (hi = none ∧ h = len) ∨ ∃ k, hi = some (.int k h)) (h0 : 0 ≤ l) (h1 : l ≤ h) (h2 : h ≤ len) (h3 : len ≤ cap) :
    (Instr.sliceAt X (.slice A len cap) lo hi none).run P w = .ok (.slice (if cap = l.toNat then A else A.map (·.add (l.toNat * te.sz))) (h.toNat - l.toNat) (cap - l.toNat)) w := by
  have hb : (Instr.sliceBounds true len cap lo hi none).run P w = .ok (l.toNat, h.toNat, cap) w := by
    unfold Instr.sliceBounds
    rcases hl with ⟨rfl, rfl⟩ | ⟨k, rfl⟩ <;> rcases hh with ⟨rfl, rfl⟩ | ⟨k', rfl⟩
    · simp
    · simp only [Instr.sliceBound, asIntOf, Sem.run_bind, Sem.run_pure, Result.andThen_ok, Sem.run_ite]
      rw [if_pos ⟨by omega, by omega⟩]
      simp
    · simp only [Instr.sliceBound, asIntOf, Sem.run_bind, Sem.run_pure, Result.andThen_ok, Sem.run_ite]
      rw [if_pos ⟨by omega, by omega⟩]
      simp
    · simp only [Instr.sliceBound, asIntOf, Sem.run_bind, Sem.run_pure, Result.andThen_ok, Sem.run_ite]
      rw [if_pos ⟨by omega, by omega⟩]
      simp only [Result.andThen_ok]
      rw [if_pos ⟨by omega, by omega⟩]
      simp
  simp [Instr.sliceAt, Instr.slice, run_underlying hu, hb, hs]

theorem run_sliceS {X : TypeId} (hu : P.underlying X = some .string) {sx : ByteArray} {lo hi : Option Value} {l h : Int}
    (hl : (lo = none ∧ l = 0) ∨ ∃ k, lo = some (.int k l)) (hh : (hi = none ∧ h = sx.size) ∨ ∃ k, hi = some (.int k h)) (h0 : 0 ≤ l) (h1 : l ≤ h) (h2 : h ≤ sx.size) :
    (Instr.sliceAt X (.string sx) lo hi none).run P w = .ok (.string (sx.extract l.toNat h.toNat)) w := by
  have hb : (Instr.sliceBounds false sx.size sx.size lo hi none).run P w = .ok (l.toNat, h.toNat, sx.size) w := by
    unfold Instr.sliceBounds
    rcases hl with ⟨rfl, rfl⟩ | ⟨k, rfl⟩ <;> rcases hh with ⟨rfl, rfl⟩ | ⟨k', rfl⟩
    · simp
    · simp only [Instr.sliceBound, asIntOf, Sem.run_bind, Sem.run_pure, Result.andThen_ok, Sem.run_ite]
      rw [if_pos ⟨by omega, by omega⟩]
      simp
    · simp only [Instr.sliceBound, asIntOf, Sem.run_bind, Sem.run_pure, Result.andThen_ok, Sem.run_ite]
      rw [if_pos ⟨by omega, by omega⟩]
      simp
    · simp only [Instr.sliceBound, asIntOf, Sem.run_bind, Sem.run_pure, Result.andThen_ok, Sem.run_ite]
      rw [if_pos ⟨by omega, by omega⟩]
      simp only [Result.andThen_ok]
      rw [if_pos ⟨by omega, by omega⟩]
      simp
  simp [Instr.sliceAt, Instr.slice, run_underlying hu, hb]

theorem opt_vals {x : Option Operand} {r : Option Int} {z : Int} (h : (x = none ∧ r = none) ∨ ∃ y k i, x = some y ∧ r = some i ∧ a.eval y = .int k i) :
    (x.map a.eval = none ∧ r.getD z = z) ∨ ∃ k, x.map a.eval = some (.int k (r.getD z)) := by
  rcases h with ⟨rfl, rfl⟩ | ⟨y, k, i, rfl, rfl, h⟩
  · exact .inl ⟨rfl, rfl⟩
  · exact .inr ⟨k, by simp [h]⟩

theorem pure_slice (hI : Inv w0 L0 N vs T a w L) (hC : CtxOk P C) {o : Oper} {X : TypeId} {t d : Nat} {lo hi : Option Operand} {l h : Option Int} {v : V} {log l1 l2 : List Nat} (ho : o.op = .slice X (.tmp t) lo hi none)
    (hid : (T.getD d .dead).idle = true) (hl : (optInt C lo).Runs T l l1) (hh : (optInt C hi).Runs T h l2)
    (hr : (sliceV C X t (l.getD 0) h (T.getD t .dead)).Runs T v log) (hvs : ∀ r, v.on r = true → r ∈ vs) : PureRes P o vs T a w L d v := by
  have hs := hI.slots t
  have el := opt_vals (z := 0) (optInt_ev hI hl)
  have eh := fun z => opt_vals (z := z) (optInt_ev hI hh)
  have key : ∀ c, (Instr.sliceAt X (a.eval (.tmp t)) (lo.map a.eval) (hi.map a.eval) none).run P w = .ok c w → (execOp a.eval o).run P w = .ok (.value c) w := by
    intro c hc
    simp [execOp, ho, hc]
  unfold sliceV at hr
  split at hr
  · rename_i l0 n sx hv
    rw [hv] at hs
    split at hr
    · rename_i hX
      obtain ⟨hc, rfl, _⟩ := hr
      simp only [Bool.and_eq_true, decide_eq_true_eq] at hc
      obtain ⟨⟨h0, h1⟩, h2⟩ := hc
      have hcv : a.eval (.tmp t) = _ := hs.str
      have hrun := run_sliceS (P := P) (w := w) (hC X _ hX).und (sx := sx) el (eh (sx.size : Int)) h0 h1 h2
      rw [← hcv] at hrun
      exact PureRes.still hI (key _ hrun) (fun _ => rfl) SRep.mkStr
    · exact hr.elim
  · obtain ⟨⟨lr, t2, x2⟩, l3, l4, rfl, h1, h2⟩ := M.runs_bind hr
    split at h2
    · rename_i z l' e te xs he
      cases he
      split at h2
      · rename_i hte
        obtain ⟨hc, rfl, _⟩ := h2
        simp only [Bool.and_eq_true, decide_eq_true_eq] at hc
        obtain ⟨⟨h0, h1'⟩, h2'⟩ := hc
        obtain ⟨cs, hf, hrd, hdp⟩ := readD_rd hI h1 hs (fun _ => rfl)
        simp only [Rd] at hrd
        obtain ⟨A, cp, rfl, k1, k2, k3⟩ := hrd
        have hcv : a.eval (.tmp t) = _ := ((List.cons.inj hf).1).symm
        unfold sliceOf at hte
        split at hte
        · rename_i e' te' hX
          injection hte with hte
          subst hte
          obtain ⟨hu, he⟩ := (hC X _ hX).und
          have hrun := run_slice (te := te') hu ((hC _ _ he).run_sizeOf (w := w)) (A := A) (len := xs.length) (cap := cp) el (eh (xs.length : Int)) h0 h1' h2' k1
          rw [← hcv] at hrun
          refine ⟨_, w, L, key _ hrun, Grows.refl hI d, fun k q hk h => (by rw [hI.free k hk] at h; cases h), hvs, fun r hr => ?_, _, rfl, ?_⟩
          · have := hdp r hr
            rw [getD_set, if_neg (fun h => idle_ne hid (V.owns_of_deep this) h.1)]
            exact this
          · simp only [Own, Rd]
            generalize hlo : (l.getD 0) = lo' at *
            generalize hhi : (h.getD (xs.length : Int)) = hi' at *
            refine ⟨if cp = lo'.toNat then A else A.map (fun x => x.add (lo'.toNat * te'.sz)), cp - lo'.toNat, ?_, ?_, ?_, ?_⟩
            · simp only [List.length_drop, List.length_take]
              rw [Nat.min_eq_left (by omega)]
            · simp only [List.length_drop, List.length_take]; omega
            · intro hA
              have : A = none := by
                split at hA
                · exact hA
                · simpa using hA
              obtain ⟨rfl, rfl⟩ := k2 this
              simp
            · intro hx
              have hxs : xs ≠ [] := by rintro rfl; simp at hx
              obtain ⟨g, o', rfl, hS, hel⟩ := k3 hxs
              have hlen : lo'.toNat < xs.length := by
                rcases Nat.lt_or_ge lo'.toNat xs.length with h | h
                · exact h
                · exact absurd (List.drop_eq_nil_of_le (by simp; omega)) hx
              refine ⟨g, o' + lo'.toNat * te'.sz, ?_, hS, fun j hj => ?_⟩
              · rw [if_neg (by omega)]
                simp [Addr.add_lit]
              · simp only [List.length_drop, List.length_take] at hj
                obtain ⟨es, he1, he2⟩ := hel (lo'.toNat + j) (by omega)
                refine ⟨es, by simpa using he1, fun i v hv => ?_⟩
                have := he2 i v hv
                rw [Nat.add_mul] at this
                rw [← this]
                congr 2
                omega
        · cases hte
      · exact h2.elim
    · exact h2.elim

theorem pure_sound (hI : Inv w0 L0 N vs T a w L) (hC : CtxOk P C) {o : Oper} {d : Nat} {v : V} {log : List Nat} (hid : (T.getD d .dead).idle = true) (hvs : ∀ r, v.on r = true → r ∈ vs)
    (h : (pureM C o).Runs T v log) : PureRes P o vs T a w L d v := by
  unfold pureM at h
  split at h
  · rename_i x ho
    exact pure_move hI ho hid h hvs
  · rename_i c x y ho
    obtain ⟨u, l1, l2, rfl, h1, h2⟩ := M.runs_bind h
    split at h2
    · rename_i l n b
      split at h2
      · exact pure_pick hI ho (opnd_bool hI h1) hid h2 hvs
      · exact pure_pick hI ho (opnd_bool hI h1) hid h2 hvs
    · exact h2.elim
  · rename_i X ho
    exact pure_alloc hI hC ho h
  · rename_i X t ho
    exact pure_load hI hC ho hid h hvs
  · rename_i t ho
    exact pure_nilCheck hI ho hid h hvs
  · rename_i X t f ho
    exact pure_fieldAddr hI hC ho hid h hvs
  · rename_i X t y ho
    obtain ⟨u, l1, l2, rfl, h1, h2⟩ := M.runs_bind h
    split at h2
    · exact pure_indexAddr (Y := 0) hI hC ho (opnd_int hI h1) hid h2 hvs
    · exact h2.elim
  · rename_i X x y ho
    obtain ⟨u, l1, l2, rfl, h1, h2⟩ := M.runs_bind h
    obtain ⟨u2, l3, l4, rfl, h3, h4⟩ := M.runs_bind h2
    split at h4
    · split at h4
      · rename_i hX
        obtain ⟨b, hb, rfl, _⟩ := h4
        exact pure_index hI hC ho hX (opnd_str hI h1) (opnd_int hI h3) hb
      · exact h4.elim
    · exact h4.elim
  · rename_i op X x y Y ho
    obtain ⟨u, l1, l2, rfl, h1, h2⟩ := M.runs_bind h
    obtain ⟨u2, l3, l4, rfl, h3, h4⟩ := M.runs_bind h2
    exact pure_bin hI hC ho h1 h3 h4
  · rename_i op X x ho
    obtain ⟨u, l1, l2, rfl, h1, h2⟩ := M.runs_bind h
    exact pure_un hI ho h1 h2
  · rename_i src dst x ho
    obtain ⟨u, l1, l2, rfl, h1, h2⟩ := M.runs_bind h
    exact pure_conv hI hC ho h1 h2
  · rename_i X x y ho
    obtain ⟨u, l1, l2, rfl, h1, h2⟩ := M.runs_bind h
    obtain ⟨u2, l3, l4, rfl, h3, h4⟩ := M.runs_bind h2
    split at h4
    · exact pure_make hI hC ho (opnd_int hI h1) (opnd_int hI h3) h4
    · exact h4.elim
  · rename_i X t lo hi ho
    obtain ⟨u, l1, l2, rfl, h1, h2⟩ := M.runs_bind h
    obtain ⟨u2, l3, l4, rfl, h3, h4⟩ := M.runs_bind h2
    obtain ⟨l5, h5⟩ := M.runs_get h4
    exact pure_slice hI hC ho hid h1 h3 h5 hvs
  · rename_i c ho
    split at h
    · rename_i t X h1 h2 h3
      split at h
      · rename_i tx hX
        have ho' : o.op = .call { callee := .builtin .len, args := #[.tmp t], argTypes := #[X] } := by
          rw [ho]
          obtain ⟨c1, c2, c3⟩ := c
          simp only at h1 h2 h3
          subst h1
          congr 2 <;> apply Array.ext' <;> simpa
        exact pure_len hI hC ho' hX h
      · exact h.elim
    · exact h.elim
  · exact h.elim

end
end Go.Proofs.Ytdfcejijcnhcaaa.C.Am
