/- A part of the proof: Am19. No conditions. -/
import Derived.Test.YtdfcejijcnhcaaaCAm18
import Derived.Great.BuildSlice
set_option linter.unusedVariables false
set_option linter.unusedSimpArgs false
namespace Go.Proofs.Ytdfcejijcnhcaaa.C.Am

/-! ## 19. Building structs and rows -/
def buildUps (C : Ctx) (vs : List Nat) (X : TypeId) (d : Nat) (parts : List (Nat × Operand)) : M (List (Nat × V)) :=
  match C.ty X with
  | some (.agg t) => (buildM C 0 0 t parts).bind fun b =>
      if nodupB (b.ms.map (·.1)) = true ∧ (b.ms.all fun p => !vs.contains p.1) = true then
        .ret (b.ms.map (fun p => (p.1, V.dead)) ++ [(d, .d none (b.n.getD t.depth) (.agg t) b.x)])
      else .fail
  | _ => .fail

/-- The elements of a row literal. -/
structure Bs (t : Ty) where
  xs : List t.den
  n : Option Nat
  ms : List (Nat × Nat × Nat)

def rowM (C : Ctx) (t : Ty) : (j left : Nat) → List (Nat × Operand) → M (Bs t)
  | _, 0, parts => if parts.isEmpty then .ret ⟨[], none, []⟩ else .fail
  | j, left + 1, parts => (fieldM C j (j * t.sz) t parts).bind fun p => (rowM C t (j + 1) left p.2).bind fun r => .ret ⟨p.1.x :: r.xs, minO p.1.n r.n, p.1.ms ++ r.ms⟩

def rowUps (C : Ctx) (vs : List Nat) (X : TypeId) (d len : Nat) (parts : List (Nat × Operand)) : M (List (Nat × V)) :=
  match C.ty X with
  | some (.slice e t) => (rowM C t 0 len parts).bind fun b =>
      if nodupB (b.ms.map (·.1)) = true ∧ (b.ms.all fun p => !vs.contains p.1) = true ∧ len * t.sz ≤ 16777216 ∧ t.sz ≠ 0 then
        .ret (b.ms.map (fun p => (p.1, V.dead)) ++ [(d, .d none (b.n.getD t.depth + 1) (.slice e t) b.xs)])
      else .fail
  | _ => .fail

section
variable {P : Program} {C : Ctx} {w w' w0 : World} {S S' : Nat → Prop} {L L' L0 : Nat → Lab} {s N : Nat} {vs : List Nat} {T T' : List V} {tm tm' : Array Value} {a : Act}

/-- An operation takes the slots to T'. -/
def Step (P : Program) (o : Oper) (w0 : World) (L0 : Nat → Lab) (N : Nat) (vs : List Nat) (T' : List V) (a : Act) (w : World) : Prop :=
  ∀ (K : Act → World → Prop) (Q : Exit → Act → World → Prop), (∀ a' w' L', Inv w0 L0 N vs T' a' w' L' → K a' w') → o.wp P a w K Q

theorem Step.value {o : Oper} {d : Nat} {c : Value} (ho : o.dst = some d) (hrun : (execOp a.eval o).run P w = .ok (.value c) w') (h : Inv w0 L0 N vs T' (a.put (some d) c) w' L') : Step P o w0 L0 N vs T' a w := by
  intro K Q hK
  unfold Oper.wp
  rw [hrun, Oper.upon_value, ho]
  exact hK _ _ _ h

theorem minO_getD {x y : Option Nat} {k m : Nat} (h : k ≤ (minO x y).getD m) (n : Nat) (hn : minO x y = some n) : k ≤ n := by rw [hn] at h; exact h

theorem ms_depth_part {t : Ty} {o : Nat} {x : Operand} {b : Bd t} {log : List Nat} (h : (partM C t o x).Runs T b log) : b.ms ≠ [] → t.depth ≠ 0 := by
  obtain ⟨v, l1, l2, rfl, h1, h2⟩ := M.runs_bind h
  split at h2
  · split at h2
    · rename_i ht
      subst ht
      split at h2
      · obtain ⟨rfl, _⟩ := h2; intro h; exact absurd rfl h
      · split at h2
        · obtain ⟨rfl, _⟩ := h2; intro h; exact absurd rfl h
        · intro _; assumption
    · exact h2.elim
  · exact h2.elim

theorem ms_depth_field {i o : Nat} {t : Ty} {parts parts' : List (Nat × Operand)} {b : Bd t} {log : List Nat} (h : (fieldM C i o t parts).Runs T (b, parts') log) : b.ms ≠ [] → t.depth ≠ 0 := by
  unfold fieldM at h
  split at h
  · split at h
    · obtain ⟨b1, l1, l2, rfl, h1, h2⟩ := M.runs_bind h
      obtain ⟨h2, _⟩ := h2
      cases h2
      exact ms_depth_part h1
    · obtain ⟨h, _⟩ := h; cases h; intro h; exact absurd rfl h
  · obtain ⟨h, _⟩ := h; cases h; intro h; exact absurd rfl h

theorem ms_depth : {t : Ty} → {i o : Nat} → {parts : List (Nat × Operand)} → {b : Bd t} → {log : List Nat} → (buildM C i o t parts).Runs T b log → b.ms ≠ [] → t.depth ≠ 0
  | .pair ta tb, i, o, parts, b, log, h => by
    simp only [buildM] at h
    obtain ⟨⟨b1, parts1⟩, l1, l2, rfl, h1, h2⟩ := M.runs_bind h
    obtain ⟨r, l3, l4, rfl, h3, h4⟩ := M.runs_bind h2
    obtain ⟨rfl, _⟩ := h4
    intro hne
    simp only [Ty.depth]
    by_cases h : b1.ms = []
    · have : r.ms ≠ [] := fun e => hne (by simp [h, e])
      have := ms_depth h3 this
      omega
    · have := ms_depth_field h1 h
      omega
  | .int _, i, o, parts, b, log, h | .bool, i, o, parts, b, log, h | .str, i, o, parts, b, log, h | .raw _, i, o, parts, b, log, h | .unit, i, o, parts, b, log, h | .agg _, i, o, parts, b, log, h | .slice _ _, i, o, parts, b, log, h => by
    simp only [buildM] at h
    obtain ⟨⟨b1, parts1⟩, l1, l2, rfl, h1, h2⟩ := M.runs_bind h
    simp only at h2
    split at h2
    · obtain ⟨rfl, _⟩ := h2
      exact ms_depth_field h1
    · exact h2.elim

theorem run_mapM {fs : Array Field} {g : Field → Nat} (h : ∀ f ∈ fs.toList, (sizeOf f.type).run P w = .ok (g f) w) :
    (fs.mapM fun f => do pure (f.offset, ← sizeOf f.type) : Sem (Array (Nat × Nat))).run P w = .ok (fs.map fun f => (f.offset, g f)) w := by
  obtain ⟨l⟩ := fs
  rw [Array.mapM_eq_mapM_toList]
  have key : ∀ l : List Field, (∀ f ∈ l, (sizeOf f.type).run P w = .ok (g f) w) → (l.mapM fun f => do pure (f.offset, ← sizeOf f.type) : Sem (List (Nat × Nat))).run P w = .ok (l.map fun f => (f.offset, g f)) w := by
    intro l
    induction l with
    | nil => intro _; simp
    | cons f l ih =>
      intro h
      have h1 := h f (by simp)
      have h2 := ih (fun f hf => h f (by simp [hf]))
      simp only [List.mapM_cons, Sem.run_bind, h1, Result.andThen_ok, Sem.run_pure, h2, List.map_cons]
  have := key l h
  simp only [Sem.run_map, this, Result.andThen_ok]
  simp

theorem gather_own_pos {d : Nat} {q : List Nat} {o0 m : Nat} {ms : List (Nat × Nat × Nat)} {nl : Nat → Lab} (hI : Inv w0 L0 N vs T a w L) (hid : (T.getD d .dead).idle = true) {k : Nat} {q' : List Nat}
    (h : newLab (gatherF d q o0 m ms) w L nl k = .own d q') (hk : k < w.heap.size) : ms ≠ [] ∧ 0 < m := by
  unfold newLab at h
  rw [if_pos hk] at h
  obtain ⟨s0, q0, e0, f0⟩ := relab_own h
  unfold gatherF at f0
  split at f0
  · rename_i p hp
    refine ⟨fun e => (by rw [e] at hp; cases hp), ?_⟩
    split at f0
    · split at f0
      · split at f0
        · omega
        · cases f0
      · cases f0
    · cases f0
  · split at f0
    · cases f0
    · rename_i h1 h2
      injection f0 with f0 _
      exact absurd f0 h2

theorem step_build (hI : Inv w0 L0 N vs T a w L) (hC : CtxOk P C) {o : Oper} {X : TypeId} {d : Nat} {parts : Array (Nat × Operand)} {ups : List (Nat × V)} {log : List Nat} (ho : o.op = .build X parts) (hdst : o.dst = some d)
    (hd : d < N) (hid : (T.getD d .dead).idle = true) (h : (buildUps C vs X d parts.toList).Runs T ups log) : Step P o w0 L0 N vs (setAll T ups) a w := by
  unfold buildUps at h
  split at h
  · rename_i t hX
    obtain ⟨b, l1, l2, rfl, h1, h2⟩ := M.runs_bind h
    split at h2
    · rename_i hc
      obtain ⟨hn, hv⟩ := hc
      obtain ⟨rfl, _⟩ := h2
      obtain ⟨i, z, i1, i2, i3, i4, i5⟩ := (hC X _ hX).info
      obtain ⟨⟨fs, hu, hfo, hfn⟩, _⟩ := (hC X _ hX).und
      have hz : z.cells = t.zcells.toArray := by rw [Form.agg i5]; rfl
      -- the places
      let g : Field → Nat := fun f => match C.ty f.type with | some t1 => t1.sz | none => 0
      have hg : ∀ f ∈ fs.toList, (sizeOf f.type).run P w = .ok (g f) w := by
        intro f hf
        obtain ⟨j, hj⟩ := List.mem_iff_getElem?.1 hf
        obtain ⟨t1, _, h4, _⟩ := hfo j f (by simpa using hj)
        have := (hC _ _ h4).run_sizeOf (w := w)
        simp [g, h4, this]
      have hplace : ∀ j r, compT j t = some r → (fs.map fun f => (f.offset, g f))[0 + j]? = some (0 + r.1, r.2.sz) := by
        intro j r hr
        have hlt := hfn j r hr
        obtain ⟨t1, h3, h4, _⟩ := hfo j fs[j] (Array.getElem?_eq_getElem hlt)
        rw [hr] at h3
        injection h3 with h3
        subst h3
        simp [hlt, g, h4]
      obtain ⟨cells', hfill⟩ := buildM_filled hI h1 (place := fun i => (fs.map fun f => (f.offset, g f))[i]?) (cells := t.zcells.toArray) hplace (by simp [Ty.zcells_len, List.take_of_length_le]) (by simp [Ty.zcells_len])
      have hrun : (execOp a.eval o).run P w = .ok (.value (.agg cells')) w := by
        have hf := hfill.fill
        simp only [Instr.fill] at hf
        simp only [execOp, ho, Instr.build, Sem.run_bind, zeroValue, Go.run_typeInfo w i1, Result.andThen_ok, i4, Sem.run_pure, run_underlying hu, run_mapM hg, hz, Array.toList_map, hf]
      have hlen : cells'.size = t.sz := by rw [hfill.size]; simp [Ty.zcells_len]
      refine Step.value hdst hrun (Inv.gather (q := []) (o0 := 0) (m := b.n.getD t.depth) (nl := fun _ => .free) hI hd hid hfill.srt hn hfill.src ?_ (Wd.refl hI _) (fun _ _ => rfl) (fun _ _ _ _ h => by cases h) (fun _ _ _ _ h => by cases h) rfl ?_ ?_)
      · intro s hs hvs
        obtain ⟨p, hp, rfl⟩ := List.mem_map.1 hs
        rw [List.all_eq_true] at hv
        have := hv p hp
        simp [hvs] at this
      · intro k q' hk
        by_cases hlt : k < w.heap.size
        · obtain ⟨e1, e2⟩ := gather_own_pos hI hid hk hlt
          have := ms_depth h1 e1
          simp only [V.owns, Ty.depth, Bool.and_eq_true, bne_iff_ne]
          exact ⟨by omega, this⟩
        · unfold newLab at hk
          rw [if_neg hlt] at hk
          cases hk
      · intro T' tm'
        refine ⟨by simp, cells'.toList, by simp [Form], ?_⟩
        simp only [Own]
        have := hfill.own (newLab (gatherF d [] 0 (b.n.getD t.depth) b.ms) w L (fun _ => .free)) w d [] 0 (b.n.getD t.depth) (fun n hn => by rw [hn]; exact Nat.le_refl _)
          (fun k hk => newLab_stable hI hk) (fun _ _ => rfl) (gatherF_went hI hn)
        simpa [List.take_of_length_le, hlen] using this
    · exact h2.elim
  · exact h.elim


structure FilledR (T : List V) (a : Act) (w : World) (L : Nat → Lab) (place : Nat → Option (Nat × Nat)) (cells : Array Value) (vals : List (Nat × Value)) (j : Nat) (t : Ty) (left : Nat) (b : Bs t) (cells' : Array Value) : Prop where
  fill : Instr.fill place cells vals = some cells'
  size : cells'.size = cells.size
  out : ∀ i, (i < j * t.sz ∨ (j + left) * t.sz ≤ i) → cells'[i]? = cells[i]?
  src : SrcOk T (j * t.sz) ((j + left) * t.sz) b.n b.ms
  srt : Srt (j * t.sz) b.ms
  len : b.xs.length = left
  dep : b.ms ≠ [] → t.depth ≠ 0
  own : ∀ (L' : Nat → Lab) (w' : World) d q o0 m, (∀ n, b.n = some n → m ≤ n) → (∀ k, L k = .stable → L' k = .stable) → (∀ k, L k ≠ .free → w'.heap[k]? = w.heap[k]?) → Went L L' d q o0 m b.ms →
    ∀ i (h : i < b.xs.length), Own w' L' (SL L' none) d m t (b.xs[i]) q (o0 + (j + i) * t.sz) ((cells'.toList.drop ((j + i) * t.sz)).take t.sz)

theorem rowM_filled (hI : Inv w0 L0 N vs T a w L) {place : Nat → Option (Nat × Nat)} {t : Ty} (hp : ∀ i, place i = some (i * t.sz, t.sz)) : {left j : Nat} → {parts : List (Nat × Operand)} → {b : Bs t} → {log : List Nat} → {cells : Array Value} →
    (rowM C t j left parts).Runs T b log → (∀ i, j ≤ i → i < j + left → (cells.toList.drop (i * t.sz)).take t.sz = t.zcells) → (j + left) * t.sz ≤ cells.size →
    ∃ cells', FilledR T a w L place cells (parts.map fun p => (p.1, a.eval p.2)) j t left b cells'
  | 0, j, parts, b, log, cells, h, hz, hb => by
    simp only [rowM] at h
    split at h
    · rename_i he
      obtain ⟨rfl, _⟩ := h
      have : parts = [] := by simpa using he
      subst this
      exact ⟨cells, rfl, rfl, fun _ _ => rfl, fun _ _ _ h => (by cases h), trivial, rfl, fun h => absurd rfl h, fun _ _ _ _ _ _ _ _ _ _ i h => absurd h (by simp)⟩
    · exact h.elim
  | left + 1, j, parts, b, log, cells, h, hz, hb => by
    simp only [rowM] at h
    obtain ⟨⟨b1, parts1⟩, l1, l2, rfl, h1, h2⟩ := M.runs_bind h
    obtain ⟨r, l3, l4, rfl, h3, h4⟩ := M.runs_bind h2
    obtain ⟨rfl, _⟩ := h4
    have e1 : (j + 1) * t.sz = j * t.sz + t.sz := by rw [Nat.add_mul, Nat.one_mul]
    have e2 : j + 1 + left = j + (left + 1) := by omega
    have e3 : (j + 1) * t.sz ≤ (j + (left + 1)) * t.sz := Nat.mul_le_mul_right _ (by omega)
    obtain ⟨c1, f1⟩ := fieldM_filled hI h1 (place := place) (cells := cells) (hp j) (hz j (Nat.le_refl _) (by omega)) (by omega)
    have hsame : ∀ i, j + 1 ≤ i → (c1.toList.drop (i * t.sz)).take t.sz = (cells.toList.drop (i * t.sz)).take t.sz := fun i hi =>
      take_drop_same (fun k hk1 hk2 => f1.out k (.inr (by have := Nat.mul_le_mul_right t.sz hi; omega)))
    obtain ⟨c2, f2⟩ := rowM_filled hI hp (cells := c1) h3 (fun i hi1 hi2 => by rw [hsame i hi1]; exact hz i (by omega) (by omega)) (by rw [f1.size, e2]; exact hb)
    refine ⟨c2, f1.fill.trans f2.fill, f2.size.trans f1.size, fun i hi => ?_, ?_, ?_, by simp [f2.len], fun hne => ?_, fun L' w' d q o0 m k1 k2 k3 k4 i hi => ?_⟩
    · rw [f2.out i (by rw [e2]; omega), f1.out i (by omega)]
    · intro s o' sz hm
      rcases List.mem_append.1 hm with hm | hm
      · exact (f1.src.mono (Nat.le_refl _) (by omega) (fun k hk => minO_some hk)) s o' sz hm
      · exact (f2.src.mono (by omega) (by rw [e2]; exact Nat.le_refl _) (fun k hk => minO_some' hk)) s o' sz hm
    · exact f1.srt.append (by omega) (fun s o' sz hm => (f1.src s o' sz hm).2.1) (by rw [← e1]; exact f2.srt)
    · by_cases h : b1.ms = []
      · exact f2.dep (fun e => hne (by simp [h, e]))
      · exact ms_depth_field h1 h
    · cases i with
      | zero =>
        simp only [Nat.add_zero, List.getElem_cons_zero]
        rw [take_drop_same (cur := c1) (cur' := c2) (fun k hk1 hk2 => f2.out k (.inl (by omega)))]
        exact f1.own L' w' d q o0 m (fun n hn => minO_le k1 hn) k2 k3 k4.left
      | succ i =>
        simp only [List.length_cons] at hi
        have := f2.own L' w' d q o0 m (fun n hn => minO_le' k1 hn) k2 k3 k4.right i (by omega)
        rw [show j + 1 + i = j + (i + 1) by omega] at this
        simpa using this

theorem step_row (hI : Inv w0 L0 N vs T a w L) (hC : CtxOk P C) {o : Oper} {X : TypeId} {d len : Nat} {parts : Array (Nat × Operand)} {ups : List (Nat × V)} {log : List Nat} (ho : o.op = .buildSlice X len parts) (hdst : o.dst = some d)
    (hd : d < N) (hid : (T.getD d .dead).idle = true) (h : (rowUps C vs X d len parts.toList).Runs T ups log) : Step P o w0 L0 N vs (setAll T ups) a w := by
  unfold rowUps at h
  split at h
  · rename_i e t hX
    obtain ⟨b, l1, l2, rfl, h1, h2⟩ := M.runs_bind h
    split at h2
    · rename_i hc
      obtain ⟨hn, hv, hsm, hsz0⟩ := hc
      obtain ⟨rfl, _⟩ := h2
      obtain ⟨hu, he⟩ := (hC X _ hX).und
      obtain ⟨i, z, i1, i2, i3, i4, i5⟩ := (hC e t he).info
      have hone : ∀ v ∈ t.zcells, v.oneCell' = true := Own.one (Own.zero (w := w) (L := L) (S := fun _ => True) (s := 0) (n := 0) (t := t) (q := []) (o := 0))
      have hcz := Form.cells i5 hone
      have hsz : z.cells.size = t.sz := by rw [← Array.length_toList, hcz, Ty.zcells_len]
      let cells : Array Value := (Array.range (len * t.sz)).map (z.cells[· % z.cells.size]!)
      have hcells : ∀ i, i < len → (cells.toList.drop (i * t.sz)).take t.sz = t.zcells := by
        intro i hi
        have := madeZero z.cells len i hi
        rw [hsz] at this
        rw [← hcz]
        show (((Array.range (len * t.sz)).map (z.cells[· % z.cells.size]!)).toList.drop (i * t.sz)).take t.sz = _
        rw [hsz]
        exact this
      have hcs : cells.size = len * t.sz := by simp [cells]
      obtain ⟨cells', hf⟩ := rowM_filled hI (place := fun i => some (i * t.sz, t.sz)) (fun _ => rfl) (cells := cells) h1 (fun i _ hi => hcells i (by omega)) (by rw [hcs]; simp)
      have hrun : (execOp a.eval o).run P w = .ok (.value (.slice (some ⟨w.heap.size, 0, none⟩) len len)) (w.alloc (.cells cells' e)) := by
        by_cases hl : len = 0
        · subst hl
          have hc0 : cells = #[] := by simp [cells]
          have hc1 : cells' = #[] := by
            have := hf.size
            rw [hcs] at this
            simpa using this
          have hfl := hf.fill
          rw [hc0, hc1] at hfl
          rw [hc1]
          simp only [execOp, ho, Instr.buildSlice, Sem.run_bind, run_underlying hu, Result.andThen_ok, (hC e t he).run_sizeOf, Nat.zero_mul]
          simp only [Array.toList_map]
          simp only [Array.range_zero', Array.map_empty, hfl, sizeOf, Go.run_typeInfo w i1]
          simp [hfl, newRow, newObj, Sem.run]
        · have hb := run_buildSlice (P := P) w X e len (parts.map fun (i, x) => (i, a.eval x)) cells' i z hu i1 i4 (by rw [i2]; omega) (by rw [i2]; intro h; rcases Nat.mul_eq_zero.1 h with h | h <;> omega) (by
            rw [i2]
            have := hf.fill
            simpa [cells] using this)
          simp [execOp, ho, hb]
      refine Step.value hdst hrun (Inv.gather (q := [0]) (o0 := 0) (m := b.n.getD t.depth) (nl := fun k => if k = w.heap.size then .own d [0] else .free) hI hd hid hf.srt hn hf.src ?_ ?_ ?_ ?_ ?_ rfl ?_ ?_)
      · intro s hs hvs
        obtain ⟨p, hp, rfl⟩ := List.mem_map.1 hs
        rw [List.all_eq_true] at hv
        have := hv p hp
        simp [hvs] at this
      · refine ⟨rfl, rfl, rfl, by simp, fun k hk _ => Go.RowKit.Below.heap_alloc w _ k hk, fun k hk => ?_, fun k s q hk h => ?_⟩
        · simp at hk
          rw [if_neg (by omega)]
        · split at h
          · injection h with h _; exact .inl h.symm
          · cases h
      · exact fun k hk => Go.RowKit.Below.heap_alloc w _ k hk
      · intro k k' q' hk h h'
        split at h
        · rename_i hkk
          injection h with _ h
          subst h
          unfold newLab at h'
          split at h'
          · exfalso
            obtain ⟨s0, q0, e0, f0⟩ := relab_own h'
            rcases gatherF_key f0 with ⟨_, _, _, _, _, _, _, h8⟩ | ⟨_, h7, h8, _⟩
            · have := congrArg List.length h8
              simp at this
            · exact h7 h8.symm
          · dsimp only at h'
            split at h'
            · omega
            · cases h'
        · cases h
      · intro k s q' hk h
        split at h
        · injection h with h _; exact h.symm
        · cases h
      · intro k q' hk
        simp [V.owns, Ty.depth]
      · intro T' tm'
        refine ⟨by simp, _, rfl, ?_⟩
        simp only [Own]
        have hL : newLab (gatherF d [0] 0 (b.n.getD t.depth) b.ms) w L (fun k => if k = w.heap.size then .own d [0] else .free) w.heap.size = .own d [0] := by
          unfold newLab
          rw [if_neg (by omega)]
          simp
        refine .inr ⟨w.heap.size, len, cells', by rw [hf.len], by simpa using hL, heap_new _ _, by rw [hf.len]; exact Nat.le_refl _, ?_, by rw [hf.size, hcs], fun j hj => ?_⟩
        · unfold maxLen
          have : len ≤ len * t.sz := Nat.le_mul_of_pos_right _ (by omega)
          omega
        · have := hf.own (newLab (gatherF d [0] 0 (b.n.getD t.depth) b.ms) w L (fun k => if k = w.heap.size then .own d [0] else .free)) (w.alloc (.cells cells' e)) d [0] 0 (b.n.getD t.depth) (fun n hn => by rw [hn]; exact Nat.le_refl _)
            (fun k hk => newLab_stable hI hk) (fun k hk => Go.RowKit.Below.heap_alloc w _ k (hI.lt hk)) (gatherF_went hI hn) j hj
          simpa using this
    · exact h2.elim
  · exact h.elim

end
end Go.Proofs.Ytdfcejijcnhcaaa.C.Am
