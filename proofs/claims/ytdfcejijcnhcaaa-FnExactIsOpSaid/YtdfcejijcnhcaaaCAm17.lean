/- A part of the proof: Am17. No conditions. -/
import Derived.Test.YtdfcejijcnhcaaaCAm16
set_option linter.unusedVariables false
set_option linter.unusedSimpArgs false
namespace Go.Proofs.Ytdfcejijcnhcaaa.C.Am

/-! ## 17. A struct's fields, filled in -/
def Srt : Nat → List (Nat × Nat × Nat) → Prop
  | _, [] => True
  | b, (_, o, sz) :: ms => b ≤ o ∧ Srt (o + sz) ms

section
variable {P : Program} {C : Ctx} {w w' w0 : World} {S S' : Nat → Prop} {L L' L0 : Nat → Lab} {s N : Nat} {vs : List Nat} {T T' : List V} {tm tm' : Array Value} {a : Act}

/-- What a source of a built value is. -/
def SrcOk (T : List V) (lo hi : Nat) (n : Option Nat) (ms : List (Nat × Nat × Nat)) : Prop :=
  ∀ s o sz, (s, o, sz) ∈ ms → lo ≤ o ∧ o + sz ≤ hi ∧ ∃ m t x, T.getD s .dead = .d none m t x ∧ m ≠ 0 ∧ t.depth ≠ 0 ∧ t.sz = sz ∧ n = n

structure Filled (T : List V) (a : Act) (w : World) (L : Nat → Lab) (place : Nat → Option (Nat × Nat)) (cells : Array Value) (vals : List (Nat × Value)) (o : Nat) (t : Ty) (b : Bd t) (cells' : Array Value) (vals' : List (Nat × Value)) : Prop where
  fill : Instr.fill place cells vals = Instr.fill place cells' vals'
  size : cells'.size = cells.size
  out : ∀ j, (j < o ∨ o + t.sz ≤ j) → cells'[j]? = cells[j]?
  src : SrcOk T o (o + t.sz) b.n b.ms
  srt : Srt o b.ms
  own : ∀ (L' : Nat → Lab) (w' : World) d q o0 m, (∀ n, b.n = some n → m ≤ n) → (∀ k, L k = .stable → L' k = .stable) → (∀ k, L k ≠ .free → w'.heap[k]? = w.heap[k]?) → Went L L' d q o0 m b.ms →
    Own w' L' (SL L' none) d m t b.x q (o0 + o) ((cells'.toList.drop o).take t.sz)

theorem fieldM_filled (hI : Inv w0 L0 N vs T a w L) {i o : Nat} {t : Ty} {parts parts' : List (Nat × Operand)} {b : Bd t} {log : List Nat} (h : (fieldM C i o t parts).Runs T (b, parts') log)
    {place : Nat → Option (Nat × Nat)} {cells : Array Value} (hp : place i = some (o, t.sz)) (hz : (cells.toList.drop o).take t.sz = t.zcells) (hb : o + t.sz ≤ cells.size) :
    ∃ cells', Filled T a w L place cells (parts.map fun p => (p.1, a.eval p.2)) o t b cells' (parts'.map fun p => (p.1, a.eval p.2)) := by
  have hzero : ∀ {parts : List (Nat × Operand)}, b = ⟨t.zero, none, []⟩ → ∃ cells', Filled T a w L place cells (parts.map fun p => (p.1, a.eval p.2)) o t b cells' (parts.map fun p => (p.1, a.eval p.2)) := by
    rintro parts rfl
    refine ⟨cells, rfl, rfl, fun _ _ => rfl, ?_, trivial, fun L' w' d q o0 m _ _ _ _ => ?_⟩
    · intro s o sz h; cases h
    · rw [hz]; exact Own.zero
  unfold fieldM at h
  split at h
  · rename_i j x rest
    split at h
    · rename_i hj
      subst hj
      obtain ⟨b1, l1, l2, rfl, h1, h2⟩ := M.runs_bind h
      obtain ⟨h2, _⟩ := h2
      injection h2 with h2 h3
      subst h2 h3
      obtain ⟨cs, hf, hone, hlen, hsrc, hlen1, hown⟩ := partM_own hI h1
      have hc := Form.cells hf hone
      obtain ⟨cells', k1, k2, k3, k4⟩ := fill_step (rest := parts'.map fun p => (p.1, a.eval p.2)) hp (by rw [← Array.length_toList, hc]; exact hlen) hb
      refine ⟨cells', k1, k2, k4, fun s o' sz hm => ?_, ?_, fun L' w' d q o0 m e1 e2 e3 e4 => ?_⟩
      · obtain ⟨rfl, rfl, n, hT, hn, hd⟩ := hsrc s o' sz hm
        exact ⟨Nat.le_refl _, Nat.le_refl _, n, t, _, hT, hn, hd, rfl, rfl⟩
      · match hms : b.ms, hlen1 with
        | [], _ => trivial
        | [(s, o', sz)], _ =>
          obtain ⟨rfl, _⟩ := hsrc s o' sz (by rw [hms]; simp)
          exact ⟨Nat.le_refl _, trivial⟩
      · rw [k3, hc]
        exact hown L' w' d q o0 m e1 e2 e3 e4
    · obtain ⟨h, _⟩ := h
      injection h with h1 h2
      subst h2
      exact hzero h1
  · obtain ⟨h, _⟩ := h
    injection h with h1 h2
    subst h2
    exact hzero h1

theorem minO_le {x y : Option Nat} {m n : Nat} (h : ∀ n, minO x y = some n → m ≤ n) (hx : x = some n) : m ≤ n := by
  subst hx
  cases y with
  | none => exact h n rfl
  | some k => have := h _ rfl; omega
theorem minO_le' {x y : Option Nat} {m n : Nat} (h : ∀ n, minO x y = some n → m ≤ n) (hy : y = some n) : m ≤ n := by
  subst hy
  cases x with
  | none => exact h n rfl
  | some k => have := h _ rfl; omega

theorem Srt.append {ms ms' : List (Nat × Nat × Nat)} {b c : Nat} (h : Srt b ms) (hc : b ≤ c) (h1 : ∀ s o sz, (s, o, sz) ∈ ms → o + sz ≤ c) (h2 : Srt c ms') : Srt b (ms ++ ms') := by
  induction ms generalizing b with
  | nil =>
    cases ms' with
    | nil => trivial
    | cons x l =>
      obtain ⟨s, o, sz⟩ := x
      exact ⟨Nat.le_trans hc h2.1, h2.2⟩
  | cons x l ih =>
    obtain ⟨s, o, sz⟩ := x
    refine ⟨h.1, ih h.2 (h1 s o sz (by simp)) (fun s o sz hm => h1 s o sz (by simp [hm]))⟩

theorem SrcOk.mono {lo hi lo' hi' : Nat} {n n' : Option Nat} {ms : List (Nat × Nat × Nat)} (h : SrcOk T lo hi n ms) (h1 : lo' ≤ lo) (h2 : hi ≤ hi') (h3 : ∀ k, n = some k → ∃ k', n' = some k' ∧ k' ≤ k) : SrcOk T lo' hi' n' ms := by
  intro s o sz hm
  obtain ⟨e1, e2, m, t, x, e3, e4, e5, e6, _⟩ := h s o sz hm
  exact ⟨by omega, by omega, m, t, x, e3, e4, e5, e6, rfl⟩

theorem minO_some {x y : Option Nat} {k : Nat} (h : x = some k) : ∃ k', minO x y = some k' ∧ k' ≤ k := by
  subst h
  cases y with
  | none => exact ⟨k, rfl, Nat.le_refl _⟩
  | some j => exact ⟨min k j, rfl, by omega⟩
theorem minO_some' {x y : Option Nat} {k : Nat} (h : y = some k) : ∃ k', minO x y = some k' ∧ k' ≤ k := by
  subst h
  cases x with
  | none => exact ⟨k, rfl, Nat.le_refl _⟩
  | some j => exact ⟨min j k, rfl, by omega⟩

theorem Went.left {d : Nat} {q : List Nat} {o0 m : Nat} {ms ms' : List (Nat × Nat × Nat)} (h : Went L L' d q o0 m (ms ++ ms')) : Went L L' d q o0 m ms := fun s o sz hm => h s o sz (List.mem_append_left _ hm)
theorem Went.right {d : Nat} {q : List Nat} {o0 m : Nat} {ms ms' : List (Nat × Nat × Nat)} (h : Went L L' d q o0 m (ms ++ ms')) : Went L L' d q o0 m ms' := fun s o sz hm => h s o sz (List.mem_append_right _ hm)

theorem buildM_filled (hI : Inv w0 L0 N vs T a w L) {place : Nat → Option (Nat × Nat)} : {t : Ty} → {i o : Nat} → {parts : List (Nat × Operand)} → {b : Bd t} → {log : List Nat} → {cells : Array Value} →
    (buildM C i o t parts).Runs T b log → (∀ j r, compT j t = some r → place (i + j) = some (o + r.1, r.2.sz)) → (cells.toList.drop o).take t.sz = t.zcells → o + t.sz ≤ cells.size →
    ∃ cells', Filled T a w L place cells (parts.map fun p => (p.1, a.eval p.2)) o t b cells' []
  | .pair ta tb, i, o, parts, b, log, cells, h, hp, hz, hb => by
    simp only [buildM] at h
    obtain ⟨⟨b1, parts1⟩, l1, l2, rfl, h1, h2⟩ := M.runs_bind h
    obtain ⟨r, l3, l4, rfl, h3, h4⟩ := M.runs_bind h2
    obtain ⟨rfl, _⟩ := h4
    simp only [Ty.sz, Ty.zcells] at hb hz
    have hza : (cells.toList.drop o).take ta.sz = ta.zcells := by
      have := congrArg (List.take ta.sz) hz
      rw [List.take_take, Nat.min_eq_left (by omega), List.take_left' (Ty.zcells_len ta)] at this
      exact this
    have hzb : (cells.toList.drop (o + ta.sz)).take tb.sz = tb.zcells := by
      have := congrArg (List.drop ta.sz) hz
      rw [List.drop_take, List.drop_drop, List.drop_left' (Ty.zcells_len ta)] at this
      rw [← this]
      congr 1
      omega
    obtain ⟨c1, f1⟩ := fieldM_filled hI h1 (place := place) (cells := cells) (by have := hp 0 _ rfl; simpa using this) hza (by omega)
    obtain ⟨c2, f2⟩ := buildM_filled hI (place := place) (cells := c1) h3 (fun j r hr => by
      have := hp (j + 1) (ta.sz + r.1, r.2) (by simp [compT, hr])
      rw [show i + 1 + j = i + (j + 1) by omega, this]
      simp only [Option.some.injEq, Prod.mk.injEq, and_true]
      omega) (by
        rw [take_drop_same (cur := cells) (cur' := c1) (fun i h1 h2 => f1.out i (by omega))]
        exact hzb) (by rw [f1.size]; omega)
    refine ⟨c2, f1.fill.trans f2.fill, f2.size.trans f1.size, fun j hj => ?_, ?_, ?_, fun L' w' d q o0 m e1 e2 e3 e4 => ?_⟩
    · simp only [Ty.sz] at hj
      rw [f2.out j (by omega), f1.out j (by omega)]
    · intro s o' sz hm
      rcases List.mem_append.1 hm with hm | hm
      · exact (f1.src.mono (Nat.le_refl _) (by simp only [Ty.sz]; omega) (fun k hk => minO_some hk)) s o' sz hm
      · exact (f2.src.mono (by omega) (by simp only [Ty.sz]; omega) (fun k hk => minO_some' hk)) s o' sz hm
    · exact f1.srt.append (by omega) (fun s o' sz hm => (f1.src s o' sz hm).2.1) f2.srt
    · simp only [Own, Ty.sz]
      refine ⟨(c2.toList.drop o).take ta.sz, (c2.toList.drop (o + ta.sz)).take tb.sz, ?_, ?_, ?_⟩
      · rw [← List.drop_drop, ← List.take_add]
      · rw [take_drop_same (cur := c1) (cur' := c2) (fun i h1 h2 => f2.out i (by omega))]
        exact f1.own L' w' d q o0 m (fun n hn => minO_le e1 hn) e2 e3 e4.left
      · rw [Nat.add_assoc]
        exact f2.own L' w' d q o0 m (fun n hn => minO_le' e1 hn) e2 e3 e4.right
  | .int _, i, o, parts, b, log, cells, h, hp, hz, hb | .bool, i, o, parts, b, log, cells, h, hp, hz, hb | .str, i, o, parts, b, log, cells, h, hp, hz, hb | .raw _, i, o, parts, b, log, cells, h, hp, hz, hb | .unit, i, o, parts, b, log, cells, h, hp, hz, hb | .agg _, i, o, parts, b, log, cells, h, hp, hz, hb | .slice _ _, i, o, parts, b, log, cells, h, hp, hz, hb => by
    simp only [buildM] at h
    obtain ⟨⟨b1, parts1⟩, l1, l2, rfl, h1, h2⟩ := M.runs_bind h
    simp only at h2
    split at h2
    · rename_i he
      obtain ⟨rfl, _⟩ := h2
      have : parts1 = [] := by simpa using he
      subst this
      exact fieldM_filled hI h1 (place := place) (cells := cells) (by have := hp 0 _ rfl; simpa using this) hz hb
    · exact h2.elim

end
end Go.Proofs.Ytdfcejijcnhcaaa.C.Am
