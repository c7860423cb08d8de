/- A part of the proof: Am17, Am18, Am19, Am20, Am21, Am22. No conditions. -/
import Derived.Test.YtdfcejijcnhcaaaDG2
import Derived.Great.BuildSlice
import Derived.Orders
set_option linter.unusedVariables false
set_option linter.unusedSimpArgs false
namespace Go.Proofs.Ytdfcejijcnhcaaa.D.Am

/-! ## 17. A struct's fields, filled in -/
def Srt : Nat → List (Nat × Nat × Nat) → Prop
  | _, [] => True
  | b, (_, o, sz) :: ms => b ≤ o ∧ Srt (o + sz) ms

section
variable {P : Program} {C : Ctx} {w w' w0 : World} {S S' : Nat → Prop} {L L' L0 : Nat → Lab} {s N : Nat} {vs : List Nat} {T T' : List V} {tm tm' : Array Value} {a : Act}

/-- What a source of a built value is. -/
def SrcOk (T : List V) (lo hi : Nat) (n : Option Nat) (ms : List (Nat × Nat × Nat)) : Prop :=
  ∀ s o sz, (s, o, sz) ∈ ms → lo ≤ o ∧ o + sz ≤ hi ∧ ∃ m t x, T.getD s .dead = .d none m t x ∧ m ≠ 0 ∧ t.depth ≠ 0 ∧ t.sz = sz ∧ n = n

structure Filled (T : List V) (a : Act) (w : World) (L : Nat → Lab) (place : Nat → Option (Nat × Nat)) (cells : Array Value) (vals : List (Nat × Value)) (o : Nat) (t : Ty) (b : Bd t) (cells' : Array Value) (vals' : List (Nat × Value)) : Prop where
  fill : Instr.fill place cells vals = Instr.fill place cells' vals'
  size : cells'.size = cells.size
  out : ∀ j, (j < o ∨ o + t.sz ≤ j) → cells'[j]? = cells[j]?
  src : SrcOk T o (o + t.sz) b.n b.ms
  srt : Srt o b.ms
  own : ∀ (L' : Nat → Lab) (w' : World) d q o0 m, (∀ n, b.n = some n → m ≤ n) → (∀ k, L k = .stable → L' k = .stable) → (∀ k, L k ≠ .free → w'.heap[k]? = w.heap[k]?) → Went L L' d q o0 m b.ms →
    Own w' L' (SL L' none) d m t b.x q (o0 + o) ((cells'.toList.drop o).take t.sz)

theorem fieldM_filled (hI : Inv w0 L0 N vs T a w L) {i o : Nat} {t : Ty} {parts parts' : List (Nat × Operand)} {b : Bd t} {log : List Nat} (h : (fieldM C i o t parts).Runs T (b, parts') log)
    {place : Nat → Option (Nat × Nat)} {cells : Array Value} (hp : place i = some (o, t.sz)) (hz : (cells.toList.drop o).take t.sz = t.zcells) (hb : o + t.sz ≤ cells.size) :
    ∃ cells', Filled T a w L place cells (parts.map fun p => (p.1, a.eval p.2)) o t b cells' (parts'.map fun p => (p.1, a.eval p.2)) := by
  have hzero : ∀ {parts : List (Nat × Operand)}, b = ⟨t.zero, none, []⟩ → ∃ cells', Filled T a w L place cells (parts.map fun p => (p.1, a.eval p.2)) o t b cells' (parts.map fun p => (p.1, a.eval p.2)) := by
    rintro parts rfl
    refine ⟨cells, rfl, rfl, fun _ _ => rfl, ?_, trivial, fun L' w' d q o0 m _ _ _ _ => ?_⟩
    · intro s o sz h; cases h
    · rw [hz]; exact Own.zero
  unfold fieldM at h
  split at h
  · rename_i j x rest
    split at h
    · rename_i hj
      subst hj
      obtain ⟨b1, l1, l2, rfl, h1, h2⟩ := M.runs_bind h
      obtain ⟨h2, _⟩ := h2
      injection h2 with h2 h3
      subst h2 h3
      obtain ⟨cs, hf, hone, hlen, hsrc, hlen1, hown⟩ := partM_own hI h1
      have hc := Form.cells hf hone
      obtain ⟨cells', k1, k2, k3, k4⟩ := fill_step (rest := parts'.map fun p => (p.1, a.eval p.2)) hp (by rw [← Array.length_toList, hc]; exact hlen) hb
      refine ⟨cells', k1, k2, k4, fun s o' sz hm => ?_, ?_, fun L' w' d q o0 m e1 e2 e3 e4 => ?_⟩
      · obtain ⟨rfl, rfl, n, hT, hn, hd⟩ := hsrc s o' sz hm
        exact ⟨Nat.le_refl _, Nat.le_refl _, n, t, _, hT, hn, hd, rfl, rfl⟩
      · match hms : b.ms, hlen1 with
        | [], _ => trivial
        | [(s, o', sz)], _ =>
          obtain ⟨rfl, _⟩ := hsrc s o' sz (by rw [hms]; simp)
          exact ⟨Nat.le_refl _, trivial⟩
      · rw [k3, hc]
        exact hown L' w' d q o0 m e1 e2 e3 e4
    · obtain ⟨h, _⟩ := h
      injection h with h1 h2
      subst h2
      exact hzero h1
  · obtain ⟨h, _⟩ := h
    injection h with h1 h2
    subst h2
    exact hzero h1

theorem minO_le {x y : Option Nat} {m n : Nat} (h : ∀ n, minO x y = some n → m ≤ n) (hx : x = some n) : m ≤ n := by
  subst hx
  cases y with
  | none => exact h n rfl
  | some k => have := h _ rfl; omega
theorem minO_le' {x y : Option Nat} {m n : Nat} (h : ∀ n, minO x y = some n → m ≤ n) (hy : y = some n) : m ≤ n := by
  subst hy
  cases x with
  | none => exact h n rfl
  | some k => have := h _ rfl; omega

theorem Srt.append {ms ms' : List (Nat × Nat × Nat)} {b c : Nat} (h : Srt b ms) (hc : b ≤ c) (h1 : ∀ s o sz, (s, o, sz) ∈ ms → o + sz ≤ c) (h2 : Srt c ms') : Srt b (ms ++ ms') := by
  induction ms generalizing b with
  | nil =>
    cases ms' with
    | nil => trivial
    | cons x l =>
      obtain ⟨s, o, sz⟩ := x
      exact ⟨Nat.le_trans hc h2.1, h2.2⟩
  | cons x l ih =>
    obtain ⟨s, o, sz⟩ := x
    refine ⟨h.1, ih h.2 (h1 s o sz (by simp)) (fun s o sz hm => h1 s o sz (by simp [hm]))⟩

theorem SrcOk.mono {lo hi lo' hi' : Nat} {n n' : Option Nat} {ms : List (Nat × Nat × Nat)} (h : SrcOk T lo hi n ms) (h1 : lo' ≤ lo) (h2 : hi ≤ hi') (h3 : ∀ k, n = some k → ∃ k', n' = some k' ∧ k' ≤ k) : SrcOk T lo' hi' n' ms := by
  intro s o sz hm
  obtain ⟨e1, e2, m, t, x, e3, e4, e5, e6, _⟩ := h s o sz hm
  exact ⟨by omega, by omega, m, t, x, e3, e4, e5, e6, rfl⟩

theorem minO_some {x y : Option Nat} {k : Nat} (h : x = some k) : ∃ k', minO x y = some k' ∧ k' ≤ k := by
  subst h
  cases y with
  | none => exact ⟨k, rfl, Nat.le_refl _⟩
  | some j => exact ⟨min k j, rfl, by omega⟩
theorem minO_some' {x y : Option Nat} {k : Nat} (h : y = some k) : ∃ k', minO x y = some k' ∧ k' ≤ k := by
  subst h
  cases x with
  | none => exact ⟨k, rfl, Nat.le_refl _⟩
  | some j => exact ⟨min j k, rfl, by omega⟩

theorem Went.left {d : Nat} {q : List Nat} {o0 m : Nat} {ms ms' : List (Nat × Nat × Nat)} (h : Went L L' d q o0 m (ms ++ ms')) : Went L L' d q o0 m ms := fun s o sz hm => h s o sz (List.mem_append_left _ hm)
theorem Went.right {d : Nat} {q : List Nat} {o0 m : Nat} {ms ms' : List (Nat × Nat × Nat)} (h : Went L L' d q o0 m (ms ++ ms')) : Went L L' d q o0 m ms' := fun s o sz hm => h s o sz (List.mem_append_right _ hm)

theorem buildM_filled (hI : Inv w0 L0 N vs T a w L) {place : Nat → Option (Nat × Nat)} : {t : Ty} → {i o : Nat} → {parts : List (Nat × Operand)} → {b : Bd t} → {log : List Nat} → {cells : Array Value} →
    (buildM C i o t parts).Runs T b log → (∀ j r, compT j t = some r → place (i + j) = some (o + r.1, r.2.sz)) → (cells.toList.drop o).take t.sz = t.zcells → o + t.sz ≤ cells.size →
    ∃ cells', Filled T a w L place cells (parts.map fun p => (p.1, a.eval p.2)) o t b cells' []
  | .pair ta tb, i, o, parts, b, log, cells, h, hp, hz, hb => by
    simp only [buildM] at h
    obtain ⟨⟨b1, parts1⟩, l1, l2, rfl, h1, h2⟩ := M.runs_bind h
    obtain ⟨r, l3, l4, rfl, h3, h4⟩ := M.runs_bind h2
    obtain ⟨rfl, _⟩ := h4
    simp only [Ty.sz, Ty.zcells] at hb hz
    have hza : (cells.toList.drop o).take ta.sz = ta.zcells := by
      have := congrArg (List.take ta.sz) hz
      rw [List.take_take, Nat.min_eq_left (by omega), List.take_left' (Ty.zcells_len ta)] at this
      exact this
    have hzb : (cells.toList.drop (o + ta.sz)).take tb.sz = tb.zcells := by
      have := congrArg (List.drop ta.sz) hz
      rw [List.drop_take, List.drop_drop, List.drop_left' (Ty.zcells_len ta)] at this
      rw [← this]
      congr 1
      omega
    obtain ⟨c1, f1⟩ := fieldM_filled hI h1 (place := place) (cells := cells) (by have := hp 0 _ rfl; simpa using this) hza (by omega)
    obtain ⟨c2, f2⟩ := buildM_filled hI (place := place) (cells := c1) h3 (fun j r hr => by
      have := hp (j + 1) (ta.sz + r.1, r.2) (by simp [compT, hr])
      rw [show i + 1 + j = i + (j + 1) by omega, this]
      simp only [Option.some.injEq, Prod.mk.injEq, and_true]
      omega) (by
        rw [take_drop_same (cur := cells) (cur' := c1) (fun i h1 h2 => f1.out i (by omega))]
        exact hzb) (by rw [f1.size]; omega)
    refine ⟨c2, f1.fill.trans f2.fill, f2.size.trans f1.size, fun j hj => ?_, ?_, ?_, fun L' w' d q o0 m e1 e2 e3 e4 => ?_⟩
    · simp only [Ty.sz] at hj
      rw [f2.out j (by omega), f1.out j (by omega)]
    · intro s o' sz hm
      rcases List.mem_append.1 hm with hm | hm
      · exact (f1.src.mono (Nat.le_refl _) (by simp only [Ty.sz]; omega) (fun k hk => minO_some hk)) s o' sz hm
      · exact (f2.src.mono (by omega) (by simp only [Ty.sz]; omega) (fun k hk => minO_some' hk)) s o' sz hm
    · exact f1.srt.append (by omega) (fun s o' sz hm => (f1.src s o' sz hm).2.1) f2.srt
    · simp only [Own, Ty.sz]
      refine ⟨(c2.toList.drop o).take ta.sz, (c2.toList.drop (o + ta.sz)).take tb.sz, ?_, ?_, ?_⟩
      · rw [← List.drop_drop, ← List.take_add]
      · rw [take_drop_same (cur := c1) (cur' := c2) (fun i h1 h2 => f2.out i (by omega))]
        exact f1.own L' w' d q o0 m (fun n hn => minO_le e1 hn) e2 e3 e4.left
      · rw [Nat.add_assoc]
        exact f2.own L' w' d q o0 m (fun n hn => minO_le' e1 hn) e2 e3 e4.right
  | .int _, i, o, parts, b, log, cells, h, hp, hz, hb | .bool, i, o, parts, b, log, cells, h, hp, hz, hb | .str, i, o, parts, b, log, cells, h, hp, hz, hb | .raw _, i, o, parts, b, log, cells, h, hp, hz, hb | .unit, i, o, parts, b, log, cells, h, hp, hz, hb | .agg _, i, o, parts, b, log, cells, h, hp, hz, hb | .slice _ _, i, o, parts, b, log, cells, h, hp, hz, hb => by
    simp only [buildM] at h
    obtain ⟨⟨b1, parts1⟩, l1, l2, rfl, h1, h2⟩ := M.runs_bind h
    simp only at h2
    split at h2
    · rename_i he
      obtain ⟨rfl, _⟩ := h2
      have : parts1 = [] := by simpa using he
      subst this
      exact fieldM_filled hI h1 (place := place) (cells := cells) (by have := hp 0 _ rfl; simpa using this) hz hb
    · exact h2.elim

end
end Go.Proofs.Ytdfcejijcnhcaaa.D.Am

set_option linter.unusedVariables false
set_option linter.unusedSimpArgs false
namespace Go.Proofs.Ytdfcejijcnhcaaa.D.Am

/-! ## 18. Parts go into a new value -/
def gatherF (d : Nat) (q : List Nat) (o0 m : Nat) (ms : List (Nat × Nat × Nat)) : Nat → List Nat → Lab := fun s z =>
  match ms.find? (fun p => p.1 == s) with
  | some p => match z with
    | y :: rest => if y < p.2.2 then (if rest.length < m then .own d (q ++ (o0 + p.2.1 + y) :: rest) else .stable) else .other
    | [] => .other
  | none => if s = d then .other else .own s z

def setAll (T : List V) (ups : List (Nat × V)) : List V := ups.foldl (fun T u => T.set u.1 u.2) T

def nodupB : List Nat → Bool
  | [] => true
  | x :: l => !l.contains x && nodupB l

section
variable {P : Program} {C : Ctx} {w w' w0 : World} {S S' : Nat → Prop} {L L' L0 : Nat → Lab} {s N : Nat} {vs : List Nat} {T T' : List V} {tm tm' : Array Value} {a : Act}

theorem find_mem {ms : List (Nat × Nat × Nat)} {s : Nat} {p : Nat × Nat × Nat} (h : ms.find? (fun p => p.1 == s) = some p) : p ∈ ms ∧ p.1 = s := by
  refine ⟨List.mem_of_find?_eq_some h, ?_⟩
  have := List.find?_some h
  simpa using this

theorem find_of_mem {ms : List (Nat × Nat × Nat)} (hn : nodupB (ms.map (·.1)) = true) {p : Nat × Nat × Nat} (h : p ∈ ms) : ms.find? (fun p' => p'.1 == p.1) = some p := by
  induction ms with
  | nil => cases h
  | cons x l ih =>
    simp only [List.map_cons, nodupB, Bool.and_eq_true, Bool.not_eq_true'] at hn
    rcases List.mem_cons.1 h with rfl | h
    · simp
    · have hne : x.1 ≠ p.1 := fun e => by
        have : (l.map (·.1)).contains x.1 = true := by
          rw [List.contains_iff_mem, e]
          exact List.mem_map_of_mem h
        rw [hn.1] at this
        cases this
      rw [List.find?_cons_of_neg (by simpa using hne)]
      exact ih hn.2 h

theorem Srt.disj {ms : List (Nat × Nat × Nat)} {b : Nat} (h : Srt b ms) (hn : nodupB (ms.map (·.1)) = true) : ∀ p p', p ∈ ms → p' ∈ ms → p.1 ≠ p'.1 → p.2.1 + p.2.2 ≤ p'.2.1 ∨ p'.2.1 + p'.2.2 ≤ p.2.1 := by
  have lower : ∀ {ms : List (Nat × Nat × Nat)} {b : Nat}, Srt b ms → ∀ p ∈ ms, b ≤ p.2.1 := by
    intro ms
    induction ms with
    | nil => intro b _ p hp; cases hp
    | cons x l ih =>
      obtain ⟨s, o, sz⟩ := x
      intro b h p hp
      rcases List.mem_cons.1 hp with rfl | hp
      · exact h.1
      · have := ih h.2 p hp
        have := h.1
        omega
  induction ms generalizing b with
  | nil => intro p p' hp; cases hp
  | cons x l ih =>
    obtain ⟨s, o, sz⟩ := x
    simp only [List.map_cons, nodupB, Bool.and_eq_true, Bool.not_eq_true'] at hn
    intro p p' hp hp' hne
    rcases List.mem_cons.1 hp with rfl | hp
    · rcases List.mem_cons.1 hp' with rfl | hp'
      · exact absurd rfl hne
      · exact .inl (lower h.2 p' hp')
    · rcases List.mem_cons.1 hp' with rfl | hp'
      · exact .inr (lower h.2 p hp)
      · exact ih h.2 hn.2 p p' hp hp' hne

theorem gatherF_key {d : Nat} {q : List Nat} {o0 m : Nat} {ms : List (Nat × Nat × Nat)} {s : Nat} {z : List Nat} {s' : Nat} {z' : List Nat} (h : gatherF d q o0 m ms s z = .own s' z') :
    (∃ p y rest, ms.find? (fun p => p.1 == s) = some p ∧ z = y :: rest ∧ y < p.2.2 ∧ s' = d ∧ z' = q ++ (o0 + p.2.1 + y) :: rest) ∨ (ms.find? (fun p => p.1 == s) = none ∧ s ≠ d ∧ s' = s ∧ z' = z) := by
  unfold gatherF at h
  split at h
  · rename_i p hp
    split at h
    · split at h
      · split at h
        · injection h with h1 h2
          exact .inl ⟨p, _, _, hp, rfl, by assumption, h1.symm, h2.symm⟩
        · cases h
      · cases h
    · cases h
  · rename_i hp
    split at h
    · cases h
    · injection h with h1 h2
      exact .inr ⟨hp, by assumption, h1.symm, h2.symm⟩

theorem gatherF_fun {d : Nat} {q : List Nat} {o0 m b : Nat} {ms : List (Nat × Nat × Nat)} (hs : Srt b ms) (hn : nodupB (ms.map (·.1)) = true) : Fun (gatherF d q o0 m ms) (fun s => s = d ∨ s ∈ ms.map (·.1)) := by
  refine ⟨fun s z hX => ?_, fun s z s' z' hX h => ?_, fun s z s2 z2 s' z' h1 h2 => ?_, fun s z => ?_⟩
  · have hX := not_or.1 hX
    have : ms.find? (fun p => p.1 == s) = none := by
      rw [List.find?_eq_none]
      intro p hp he
      exact hX.2 (by rw [List.mem_map]; exact ⟨p, hp, by simpa using he⟩)
    simp [gatherF, this, hX.1]
  · rcases gatherF_key h with ⟨_, _, _, _, _, _, rfl, _⟩ | ⟨h1, h2, rfl, _⟩
    · exact .inl rfl
    · exact hX
  · rcases gatherF_key h1 with ⟨p, y, rest, hp, rfl, hy, rfl, rfl⟩ | ⟨hp, hd, rfl, rfl⟩
    · rcases gatherF_key h2 with ⟨p', y', rest', hp', rfl, hy', _, he⟩ | ⟨_, hd2, h3, _⟩
      · have he := List.append_cancel_left he
        injection he with he1 he2
        subst he2
        obtain ⟨m1, e1⟩ := find_mem hp
        obtain ⟨m2, e2⟩ := find_mem hp'
        by_cases hne : p.1 = p'.1
        · have hpp : p = p' := by
            have f1 := find_of_mem hn m1
            have f2 := find_of_mem hn m2
            rw [hne] at f1
            rw [f1] at f2
            exact Option.some.inj f2
          subst hpp
          exact ⟨e1.symm.trans e2, by rw [show y = y' by omega]⟩
        · have := hs.disj hn p p' m1 m2 hne
          omega
      · exact absurd h3.symm hd2
    · rcases gatherF_key h2 with ⟨_, _, _, _, _, _, h3, _⟩ | ⟨_, _, h3, h4⟩
      · exact absurd h3 hd
      · exact ⟨h3, h4⟩
  · unfold gatherF
    repeat' split
    all_goals simp

theorem gatherF_went {d : Nat} {q : List Nat} {o0 m : Nat} {ms : List (Nat × Nat × Nat)} {nl : Nat → Lab} (hI : Inv w0 L0 N vs T a w L) (hn : nodupB (ms.map (·.1)) = true) :
    Went L (newLab (gatherF d q o0 m ms) w L nl) d q o0 m ms := by
  intro s o sz hm k y rest hy hk
  have hf := find_of_mem hn hm
  have : newLab (gatherF d q o0 m ms) w L nl k = if rest.length < m then .own d (q ++ (o0 + o + y) :: rest) else .stable := by
    rw [newLab_old hI (by rw [hk]; simp), hk]
    simp only [relab, gatherF, hf]
    rw [if_pos hy]
  refine ⟨fun h => ?_, fun h => ?_⟩
  · rw [this, if_pos h]
  · rw [this, if_neg (by omega)]

theorem getD_setAll (ups : List (Nat × V)) (T : List V) (s : Nat) (h : s ∉ ups.map (·.1)) : (setAll T ups).getD s .dead = T.getD s .dead := by
  unfold setAll
  induction ups generalizing T with
  | nil => rfl
  | cons u l ih =>
    simp only [List.map_cons, List.mem_cons, not_or] at h
    simp only [List.foldl_cons]
    rw [ih _ h.2, getD_set, if_neg (fun e => h.1 e.1)]

theorem length_setAll (ups : List (Nat × V)) (T : List V) : (setAll T ups).length = T.length := by
  unfold setAll
  induction ups generalizing T with
  | nil => rfl
  | cons u l ih => simp only [List.foldl_cons]; rw [ih]; simp

theorem setAll_append (u1 u2 : List (Nat × V)) (T : List V) : setAll T (u1 ++ u2) = setAll (setAll T u1) u2 := by
  simp [setAll, List.foldl_append]

theorem getD_deads (ss : List Nat) (T : List V) (s : Nat) (h : s ∈ ss) : (setAll T (ss.map fun s => (s, V.dead))).getD s .dead = .dead := by
  unfold setAll
  induction ss generalizing T with
  | nil => cases h
  | cons x l ih =>
    simp only [List.map_cons, List.foldl_cons]
    by_cases hl : s ∈ l
    · exact ih _ hl
    · rcases List.mem_cons.1 h with rfl | h
      · have := getD_setAll (l.map fun s => (s, V.dead)) (T.set s .dead) s (by simpa using hl)
        unfold setAll at this
        rw [this, getD_set]
        split
        · rfl
        · rename_i hh
          exact getD_out (Nat.le_of_not_lt fun hl => hh ⟨rfl, hl⟩)
      · exact absurd h hl

/-- The slots of the parts are given up, and slot d gets the value that is made of them. -/
theorem Inv.gather (hI : Inv w0 L0 N vs T a w L) {d : Nat} {q : List Nat} {o0 m b hi : Nat} {n : Option Nat} {ms : List (Nat × Nat × Nat)} {nl : Nat → Lab} {v : V} {c : Value} (hd : d < N) (hid : (T.getD d .dead).idle = true)
    (hs : Srt b ms) (hn : nodupB (ms.map (·.1)) = true) (hsrc : SrcOk T b hi n ms) (hvs : ∀ s, s ∈ ms.map (·.1) → s ∉ vs)
    (hw : Wd w w' L nl (fun s => s = d ∨ s ∈ ms.map (·.1))) (hold : ∀ k, k < w.heap.size → w'.heap[k]? = w.heap[k]?) (hnl : ∀ k k' q', w.heap.size ≤ k → nl k = .own d q' → newLab (gatherF d q o0 m ms) w L nl k' = .own d q' → k = k') (hnd : ∀ k s q', w.heap.size ≤ k → nl k = .own s q' → s = d)
    (hv : v.root = none) (hvo : ∀ k q', newLab (gatherF d q o0 m ms) w L nl k = .own d q' → v.owns = true)
    (hr : ∀ T' tm', SRep (newLab (gatherF d q o0 m ms) w L nl) T' tm' d v w' c) :
    Inv w0 L0 N vs (setAll T (ms.map (fun p => (p.1, V.dead)) ++ [(d, v)])) (a.put (some d) c) w' (newLab (gatherF d q o0 m ms) w L nl) := by
  have hdm : d ∉ ms.map (·.1) := fun h => by
    obtain ⟨p, hp, rfl⟩ := List.mem_map.1 h
    obtain ⟨_, _, m', t, x, h1, h2, h3, _⟩ := hsrc p.1 p.2.1 p.2.2 hp
    rw [h1] at hid
    simp [V.idle, V.owns, h2, h3] at hid
  have hmm : ms.map (fun p => (p.1, V.dead)) = (ms.map (·.1)).map fun s => (s, V.dead) := by simp [List.map_map]
  have hT : setAll T (ms.map (fun p => (p.1, V.dead)) ++ [(d, v)]) = (setAll T ((ms.map (·.1)).map fun s => (s, V.dead))).set d v := by
    rw [setAll_append, hmm]; rfl
  have hlen : (setAll T ((ms.map (·.1)).map fun s => (s, V.dead))).length = N := by rw [length_setAll, hI.len]
  have hTd : (setAll T (ms.map (fun p => (p.1, V.dead)) ++ [(d, v)])).getD d .dead = v := by
    rw [hT, getD_set, if_pos ⟨rfl, by rw [hlen]; exact hd⟩]
  have hTs : ∀ s, s ∈ ms.map (·.1) → (setAll T (ms.map (fun p => (p.1, V.dead)) ++ [(d, v)])).getD s .dead = .dead := by
    intro s hs
    rw [hT, getD_set, if_neg (fun e => hdm (by rw [← e.1]; exact hs))]
    exact getD_deads _ _ _ hs
  have hno : (T.getD d .dead).owns = false := V.not_owns hid
  refine Inv.updF (X := fun s => s = d ∨ s ∈ ms.map (·.1)) hI (gatherF_fun hs hn) hw ?_ (by simp [Act.put, hI.size]) (by rw [hT, List.length_set, hlen]) hI.dfr ?_ ?_ ?_ ?_ ?_
  · intro k k' s q' hk h h'
    obtain rfl := hnd k s q' hk h
    exact hnl k k' q' hk h h'
  · intro k s q' hX h
    rcases hX with rfl | hX
    · rw [hTd]; exact hvo k q' h
    · exfalso
      unfold newLab at h
      split at h
      · obtain ⟨s0, q0, e0, f0⟩ := relab_own h
        rcases gatherF_key f0 with ⟨_, _, _, _, _, _, rfl, _⟩ | ⟨h1, h2, rfl, _⟩
        · exact hdm hX
        · rw [List.find?_eq_none] at h1
          obtain ⟨p, hp, rfl⟩ := List.mem_map.1 hX
          exact h1 p hp (by simp)
      · obtain rfl := hnd k s q' (by omega) h
        exact hdm hX
  · intro s r hX hon hr
    rcases hr with rfl | hr
    · exact hno
    · exact absurd (hI.roots s r hon) (hvs r hr)
  · intro s hX
    have hX' := not_or.1 hX
    rw [hT, getD_set, if_neg (fun e => hX'.1 e.1), getD_setAll _ _ _ (by simpa [List.map_map] using hX'.2)]
    refine ⟨rfl, ?_⟩
    show (a.tmps.setIfInBounds d c).getD s undef = _
    rw [getD_setA, if_neg (fun e => hX'.1 e.1)]
  · intro s r hX hon
    rcases hX with rfl | hX
    · rw [hTd] at hon
      simp [V.on, hv] at hon
    · rw [hTs s hX] at hon
      simp [V.on, V.root] at hon
  · intro s hX
    rcases hX with rfl | hX
    · rw [hTd]
      show SRep _ _ _ _ _ _ ((a.tmps.setIfInBounds s c).getD s undef)
      rw [getD_setA, if_pos ⟨rfl, by rw [hI.size]; exact hd⟩]
      exact hr _ _
    · rw [hTs s hX]; trivial
end
end Go.Proofs.Ytdfcejijcnhcaaa.D.Am

set_option linter.unusedVariables false
set_option linter.unusedSimpArgs false
namespace Go.Proofs.Ytdfcejijcnhcaaa.D.Am

/-! ## 19. Building structs and rows -/
def buildUps (C : Ctx) (vs : List Nat) (X : TypeId) (d : Nat) (parts : List (Nat × Operand)) : M (List (Nat × V)) :=
  match C.ty X with
  | some (.agg t) => (buildM C 0 0 t parts).bind fun b =>
      if nodupB (b.ms.map (·.1)) = true ∧ (b.ms.all fun p => !vs.contains p.1) = true then
        .ret (b.ms.map (fun p => (p.1, V.dead)) ++ [(d, .d none (b.n.getD t.depth) (.agg t) b.x)])
      else .fail
  | _ => .fail

/-- The elements of a row literal. -/
structure Bs (t : Ty) where
  xs : List t.den
  n : Option Nat
  ms : List (Nat × Nat × Nat)

def rowM (C : Ctx) (t : Ty) : (j left : Nat) → List (Nat × Operand) → M (Bs t)
  | _, 0, parts => if parts.isEmpty then .ret ⟨[], none, []⟩ else .fail
  | j, left + 1, parts => (fieldM C j (j * t.sz) t parts).bind fun p => (rowM C t (j + 1) left p.2).bind fun r => .ret ⟨p.1.x :: r.xs, minO p.1.n r.n, p.1.ms ++ r.ms⟩

def rowUps (C : Ctx) (vs : List Nat) (X : TypeId) (d len : Nat) (parts : List (Nat × Operand)) : M (List (Nat × V)) :=
  match C.ty X with
  | some (.slice e t) => (rowM C t 0 len parts).bind fun b =>
      if nodupB (b.ms.map (·.1)) = true ∧ (b.ms.all fun p => !vs.contains p.1) = true ∧ len * t.sz ≤ 16777216 ∧ t.sz ≠ 0 then
        .ret (b.ms.map (fun p => (p.1, V.dead)) ++ [(d, .d none (b.n.getD t.depth + 1) (.slice e t) b.xs)])
      else .fail
  | _ => .fail

section
variable {P : Program} {C : Ctx} {w w' w0 : World} {S S' : Nat → Prop} {L L' L0 : Nat → Lab} {s N : Nat} {vs : List Nat} {T T' : List V} {tm tm' : Array Value} {a : Act}

/-- An operation takes the slots to T'. -/
def Step (P : Program) (o : Oper) (w0 : World) (L0 : Nat → Lab) (N : Nat) (vs : List Nat) (T' : List V) (a : Act) (w : World) : Prop :=
  ∀ (K : Act → World → Prop) (Q : Exit → Act → World → Prop), (∀ a' w' L', Inv w0 L0 N vs T' a' w' L' → K a' w') → o.wp P a w K Q

theorem Step.value {o : Oper} {d : Nat} {c : Value} (ho : o.dst = some d) (hrun : (execOp a.eval o).run P w = .ok (.value c) w') (h : Inv w0 L0 N vs T' (a.put (some d) c) w' L') : Step P o w0 L0 N vs T' a w := by
  intro K Q hK
  unfold Oper.wp
  rw [hrun, Oper.upon_value, ho]
  exact hK _ _ _ h

theorem minO_getD {x y : Option Nat} {k m : Nat} (h : k ≤ (minO x y).getD m) (n : Nat) (hn : minO x y = some n) : k ≤ n := by rw [hn] at h; exact h

theorem ms_depth_part {t : Ty} {o : Nat} {x : Operand} {b : Bd t} {log : List Nat} (h : (partM C t o x).Runs T b log) : b.ms ≠ [] → t.depth ≠ 0 := by
  obtain ⟨v, l1, l2, rfl, h1, h2⟩ := M.runs_bind h
  split at h2
  · split at h2
    · rename_i ht
      subst ht
      split at h2
      · obtain ⟨rfl, _⟩ := h2; intro h; exact absurd rfl h
      · split at h2
        · obtain ⟨rfl, _⟩ := h2; intro h; exact absurd rfl h
        · intro _; assumption
    · exact h2.elim
  · exact h2.elim

theorem ms_depth_field {i o : Nat} {t : Ty} {parts parts' : List (Nat × Operand)} {b : Bd t} {log : List Nat} (h : (fieldM C i o t parts).Runs T (b, parts') log) : b.ms ≠ [] → t.depth ≠ 0 := by
  unfold fieldM at h
  split at h
  · split at h
    · obtain ⟨b1, l1, l2, rfl, h1, h2⟩ := M.runs_bind h
      obtain ⟨h2, _⟩ := h2
      cases h2
      exact ms_depth_part h1
    · obtain ⟨h, _⟩ := h; cases h; intro h; exact absurd rfl h
  · obtain ⟨h, _⟩ := h; cases h; intro h; exact absurd rfl h

theorem ms_depth : {t : Ty} → {i o : Nat} → {parts : List (Nat × Operand)} → {b : Bd t} → {log : List Nat} → (buildM C i o t parts).Runs T b log → b.ms ≠ [] → t.depth ≠ 0
  | .pair ta tb, i, o, parts, b, log, h => by
    simp only [buildM] at h
    obtain ⟨⟨b1, parts1⟩, l1, l2, rfl, h1, h2⟩ := M.runs_bind h
    obtain ⟨r, l3, l4, rfl, h3, h4⟩ := M.runs_bind h2
    obtain ⟨rfl, _⟩ := h4
    intro hne
    simp only [Ty.depth]
    by_cases h : b1.ms = []
    · have : r.ms ≠ [] := fun e => hne (by simp [h, e])
      have := ms_depth h3 this
      omega
    · have := ms_depth_field h1 h
      omega
  | .int _, i, o, parts, b, log, h | .bool, i, o, parts, b, log, h | .str, i, o, parts, b, log, h | .raw _, i, o, parts, b, log, h | .unit, i, o, parts, b, log, h | .agg _, i, o, parts, b, log, h | .slice _ _, i, o, parts, b, log, h => by
    simp only [buildM] at h
    obtain ⟨⟨b1, parts1⟩, l1, l2, rfl, h1, h2⟩ := M.runs_bind h
    simp only at h2
    split at h2
    · obtain ⟨rfl, _⟩ := h2
      exact ms_depth_field h1
    · exact h2.elim

theorem run_mapM {fs : Array Field} {g : Field → Nat} (h : ∀ f ∈ fs.toList, (sizeOf f.type).run P w = .ok (g f) w) :
    (fs.mapM fun f => do pure (f.offset, ← sizeOf f.type) : Sem (Array (Nat × Nat))).run P w = .ok (fs.map fun f => (f.offset, g f)) w := by
  obtain ⟨l⟩ := fs
  rw [Array.mapM_eq_mapM_toList]
  have key : ∀ l : List Field, (∀ f ∈ l, (sizeOf f.type).run P w = .ok (g f) w) → (l.mapM fun f => do pure (f.offset, ← sizeOf f.type) : Sem (List (Nat × Nat))).run P w = .ok (l.map fun f => (f.offset, g f)) w := by
    intro l
    induction l with
    | nil => intro _; simp
    | cons f l ih =>
      intro h
      have h1 := h f (by simp)
      have h2 := ih (fun f hf => h f (by simp [hf]))
      simp only [List.mapM_cons, Sem.run_bind, h1, Result.andThen_ok, Sem.run_pure, h2, List.map_cons]
  have := key l h
  simp only [Sem.run_map, this, Result.andThen_ok]
  simp

theorem gather_own_pos {d : Nat} {q : List Nat} {o0 m : Nat} {ms : List (Nat × Nat × Nat)} {nl : Nat → Lab} (hI : Inv w0 L0 N vs T a w L) (hid : (T.getD d .dead).idle = true) {k : Nat} {q' : List Nat}
    (h : newLab (gatherF d q o0 m ms) w L nl k = .own d q') (hk : k < w.heap.size) : ms ≠ [] ∧ 0 < m := by
  unfold newLab at h
  rw [if_pos hk] at h
  obtain ⟨s0, q0, e0, f0⟩ := relab_own h
  unfold gatherF at f0
  split at f0
  · rename_i p hp
    refine ⟨fun e => (by rw [e] at hp; cases hp), ?_⟩
    split at f0
    · split at f0
      · split at f0
        · omega
        · cases f0
      · cases f0
    · cases f0
  · split at f0
    · cases f0
    · rename_i h1 h2
      injection f0 with f0 _
      exact absurd f0 h2

theorem step_build (hI : Inv w0 L0 N vs T a w L) (hC : CtxOk P C) {o : Oper} {X : TypeId} {d : Nat} {parts : Array (Nat × Operand)} {ups : List (Nat × V)} {log : List Nat} (ho : o.op = .build X parts) (hdst : o.dst = some d)
    (hd : d < N) (hid : (T.getD d .dead).idle = true) (h : (buildUps C vs X d parts.toList).Runs T ups log) : Step P o w0 L0 N vs (setAll T ups) a w := by
  unfold buildUps at h
  split at h
  · rename_i t hX
    obtain ⟨b, l1, l2, rfl, h1, h2⟩ := M.runs_bind h
    split at h2
    · rename_i hc
      obtain ⟨hn, hv⟩ := hc
      obtain ⟨rfl, _⟩ := h2
      obtain ⟨i, z, i1, i2, i3, i4, i5⟩ := (hC X _ hX).info
      obtain ⟨⟨fs, hu, hfo, hfn⟩, _⟩ := (hC X _ hX).und
      have hz : z.cells = t.zcells.toArray := by rw [Form.agg i5]; rfl
      -- the places
      let g : Field → Nat := fun f => match C.ty f.type with | some t1 => t1.sz | none => 0
      have hg : ∀ f ∈ fs.toList, (sizeOf f.type).run P w = .ok (g f) w := by
        intro f hf
        obtain ⟨j, hj⟩ := List.mem_iff_getElem?.1 hf
        obtain ⟨t1, _, h4, _⟩ := hfo j f (by simpa using hj)
        have := (hC _ _ h4).run_sizeOf (w := w)
        simp [g, h4, this]
      have hplace : ∀ j r, compT j t = some r → (fs.map fun f => (f.offset, g f))[0 + j]? = some (0 + r.1, r.2.sz) := by
        intro j r hr
        have hlt := hfn j r hr
        obtain ⟨t1, h3, h4, _⟩ := hfo j fs[j] (Array.getElem?_eq_getElem hlt)
        rw [hr] at h3
        injection h3 with h3
        subst h3
        simp [hlt, g, h4]
      obtain ⟨cells', hfill⟩ := buildM_filled hI h1 (place := fun i => (fs.map fun f => (f.offset, g f))[i]?) (cells := t.zcells.toArray) hplace (by simp [Ty.zcells_len, List.take_of_length_le]) (by simp [Ty.zcells_len])
      have hrun : (execOp a.eval o).run P w = .ok (.value (.agg cells')) w := by
        have hf := hfill.fill
        simp only [Instr.fill] at hf
        simp only [execOp, ho, Instr.build, Sem.run_bind, zeroValue, Go.run_typeInfo w i1, Result.andThen_ok, i4, Sem.run_pure, run_underlying hu, run_mapM hg, hz, Array.toList_map, hf]
      have hlen : cells'.size = t.sz := by rw [hfill.size]; simp [Ty.zcells_len]
      refine Step.value hdst hrun (Inv.gather (q := []) (o0 := 0) (m := b.n.getD t.depth) (nl := fun _ => .free) hI hd hid hfill.srt hn hfill.src ?_ (Wd.refl hI _) (fun _ _ => rfl) (fun _ _ _ _ h => by cases h) (fun _ _ _ _ h => by cases h) rfl ?_ ?_)
      · intro s hs hvs
        obtain ⟨p, hp, rfl⟩ := List.mem_map.1 hs
        rw [List.all_eq_true] at hv
        have := hv p hp
        simp [hvs] at this
      · intro k q' hk
        by_cases hlt : k < w.heap.size
        · obtain ⟨e1, e2⟩ := gather_own_pos hI hid hk hlt
          have := ms_depth h1 e1
          simp only [V.owns, Ty.depth, Bool.and_eq_true, bne_iff_ne]
          exact ⟨by omega, this⟩
        · unfold newLab at hk
          rw [if_neg hlt] at hk
          cases hk
      · intro T' tm'
        refine ⟨by simp, cells'.toList, by simp [Form], ?_⟩
        simp only [Own]
        have := hfill.own (newLab (gatherF d [] 0 (b.n.getD t.depth) b.ms) w L (fun _ => .free)) w d [] 0 (b.n.getD t.depth) (fun n hn => by rw [hn]; exact Nat.le_refl _)
          (fun k hk => newLab_stable hI hk) (fun _ _ => rfl) (gatherF_went hI hn)
        simpa [List.take_of_length_le, hlen] using this
    · exact h2.elim
  · exact h.elim


structure FilledR (T : List V) (a : Act) (w : World) (L : Nat → Lab) (place : Nat → Option (Nat × Nat)) (cells : Array Value) (vals : List (Nat × Value)) (j : Nat) (t : Ty) (left : Nat) (b : Bs t) (cells' : Array Value) : Prop where
  fill : Instr.fill place cells vals = some cells'
  size : cells'.size = cells.size
  out : ∀ i, (i < j * t.sz ∨ (j + left) * t.sz ≤ i) → cells'[i]? = cells[i]?
  src : SrcOk T (j * t.sz) ((j + left) * t.sz) b.n b.ms
  srt : Srt (j * t.sz) b.ms
  len : b.xs.length = left
  dep : b.ms ≠ [] → t.depth ≠ 0
  own : ∀ (L' : Nat → Lab) (w' : World) d q o0 m, (∀ n, b.n = some n → m ≤ n) → (∀ k, L k = .stable → L' k = .stable) → (∀ k, L k ≠ .free → w'.heap[k]? = w.heap[k]?) → Went L L' d q o0 m b.ms →
    ∀ i (h : i < b.xs.length), Own w' L' (SL L' none) d m t (b.xs[i]) q (o0 + (j + i) * t.sz) ((cells'.toList.drop ((j + i) * t.sz)).take t.sz)

theorem rowM_filled (hI : Inv w0 L0 N vs T a w L) {place : Nat → Option (Nat × Nat)} {t : Ty} (hp : ∀ i, place i = some (i * t.sz, t.sz)) : {left j : Nat} → {parts : List (Nat × Operand)} → {b : Bs t} → {log : List Nat} → {cells : Array Value} →
    (rowM C t j left parts).Runs T b log → (∀ i, j ≤ i → i < j + left → (cells.toList.drop (i * t.sz)).take t.sz = t.zcells) → (j + left) * t.sz ≤ cells.size →
    ∃ cells', FilledR T a w L place cells (parts.map fun p => (p.1, a.eval p.2)) j t left b cells'
  | 0, j, parts, b, log, cells, h, hz, hb => by
    simp only [rowM] at h
    split at h
    · rename_i he
      obtain ⟨rfl, _⟩ := h
      have : parts = [] := by simpa using he
      subst this
      exact ⟨cells, rfl, rfl, fun _ _ => rfl, fun _ _ _ h => (by cases h), trivial, rfl, fun h => absurd rfl h, fun _ _ _ _ _ _ _ _ _ _ i h => absurd h (by simp)⟩
    · exact h.elim
  | left + 1, j, parts, b, log, cells, h, hz, hb => by
    simp only [rowM] at h
    obtain ⟨⟨b1, parts1⟩, l1, l2, rfl, h1, h2⟩ := M.runs_bind h
    obtain ⟨r, l3, l4, rfl, h3, h4⟩ := M.runs_bind h2
    obtain ⟨rfl, _⟩ := h4
    have e1 : (j + 1) * t.sz = j * t.sz + t.sz := by rw [Nat.add_mul, Nat.one_mul]
    have e2 : j + 1 + left = j + (left + 1) := by omega
    have e3 : (j + 1) * t.sz ≤ (j + (left + 1)) * t.sz := Nat.mul_le_mul_right _ (by omega)
    obtain ⟨c1, f1⟩ := fieldM_filled hI h1 (place := place) (cells := cells) (hp j) (hz j (Nat.le_refl _) (by omega)) (by omega)
    have hsame : ∀ i, j + 1 ≤ i → (c1.toList.drop (i * t.sz)).take t.sz = (cells.toList.drop (i * t.sz)).take t.sz := fun i hi =>
      take_drop_same (fun k hk1 hk2 => f1.out k (.inr (by have := Nat.mul_le_mul_right t.sz hi; omega)))
    obtain ⟨c2, f2⟩ := rowM_filled hI hp (cells := c1) h3 (fun i hi1 hi2 => by rw [hsame i hi1]; exact hz i (by omega) (by omega)) (by rw [f1.size, e2]; exact hb)
    refine ⟨c2, f1.fill.trans f2.fill, f2.size.trans f1.size, fun i hi => ?_, ?_, ?_, by simp [f2.len], fun hne => ?_, fun L' w' d q o0 m k1 k2 k3 k4 i hi => ?_⟩
    · rw [f2.out i (by rw [e2]; omega), f1.out i (by omega)]
    · intro s o' sz hm
      rcases List.mem_append.1 hm with hm | hm
      · exact (f1.src.mono (Nat.le_refl _) (by omega) (fun k hk => minO_some hk)) s o' sz hm
      · exact (f2.src.mono (by omega) (by rw [e2]; exact Nat.le_refl _) (fun k hk => minO_some' hk)) s o' sz hm
    · exact f1.srt.append (by omega) (fun s o' sz hm => (f1.src s o' sz hm).2.1) (by rw [← e1]; exact f2.srt)
    · by_cases h : b1.ms = []
      · exact f2.dep (fun e => hne (by simp [h, e]))
      · exact ms_depth_field h1 h
    · cases i with
      | zero =>
        simp only [Nat.add_zero, List.getElem_cons_zero]
        rw [take_drop_same (cur := c1) (cur' := c2) (fun k hk1 hk2 => f2.out k (.inl (by omega)))]
        exact f1.own L' w' d q o0 m (fun n hn => minO_le k1 hn) k2 k3 k4.left
      | succ i =>
        simp only [List.length_cons] at hi
        have := f2.own L' w' d q o0 m (fun n hn => minO_le' k1 hn) k2 k3 k4.right i (by omega)
        rw [show j + 1 + i = j + (i + 1) by omega] at this
        simpa using this

theorem step_row (hI : Inv w0 L0 N vs T a w L) (hC : CtxOk P C) {o : Oper} {X : TypeId} {d len : Nat} {parts : Array (Nat × Operand)} {ups : List (Nat × V)} {log : List Nat} (ho : o.op = .buildSlice X len parts) (hdst : o.dst = some d)
    (hd : d < N) (hid : (T.getD d .dead).idle = true) (h : (rowUps C vs X d len parts.toList).Runs T ups log) : Step P o w0 L0 N vs (setAll T ups) a w := by
  unfold rowUps at h
  split at h
  · rename_i e t hX
    obtain ⟨b, l1, l2, rfl, h1, h2⟩ := M.runs_bind h
    split at h2
    · rename_i hc
      obtain ⟨hn, hv, hsm, hsz0⟩ := hc
      obtain ⟨rfl, _⟩ := h2
      obtain ⟨hu, he⟩ := (hC X _ hX).und
      obtain ⟨i, z, i1, i2, i3, i4, i5⟩ := (hC e t he).info
      have hone : ∀ v ∈ t.zcells, v.oneCell' = true := Own.one (Own.zero (w := w) (L := L) (S := fun _ => True) (s := 0) (n := 0) (t := t) (q := []) (o := 0))
      have hcz := Form.cells i5 hone
      have hsz : z.cells.size = t.sz := by rw [← Array.length_toList, hcz, Ty.zcells_len]
      let cells : Array Value := (Array.range (len * t.sz)).map (z.cells[· % z.cells.size]!)
      have hcells : ∀ i, i < len → (cells.toList.drop (i * t.sz)).take t.sz = t.zcells := by
        intro i hi
        have := madeZero z.cells len i hi
        rw [hsz] at this
        rw [← hcz]
        show (((Array.range (len * t.sz)).map (z.cells[· % z.cells.size]!)).toList.drop (i * t.sz)).take t.sz = _
        rw [hsz]
        exact this
      have hcs : cells.size = len * t.sz := by simp [cells]
      obtain ⟨cells', hf⟩ := rowM_filled hI (place := fun i => some (i * t.sz, t.sz)) (fun _ => rfl) (cells := cells) h1 (fun i _ hi => hcells i (by omega)) (by rw [hcs]; simp)
      have hrun : (execOp a.eval o).run P w = .ok (.value (.slice (some ⟨w.heap.size, 0, none⟩) len len)) (w.alloc (.cells cells' e)) := by
        by_cases hl : len = 0
        · subst hl
          have hc0 : cells = #[] := by simp [cells]
          have hc1 : cells' = #[] := by
            have := hf.size
            rw [hcs] at this
            simpa using this
          have hfl := hf.fill
          rw [hc0, hc1] at hfl
          rw [hc1]
          simp only [execOp, ho, Instr.buildSlice, Sem.run_bind, run_underlying hu, Result.andThen_ok, (hC e t he).run_sizeOf, Nat.zero_mul]
          simp only [Array.toList_map]
          simp only [Array.range_zero', Array.map_empty, hfl, sizeOf, Go.run_typeInfo w i1]
          simp [hfl, newRow, newObj, Sem.run]
        · have hb := run_buildSlice (P := P) w X e len (parts.map fun (i, x) => (i, a.eval x)) cells' i z hu i1 i4 (by rw [i2]; omega) (by rw [i2]; intro h; rcases Nat.mul_eq_zero.1 h with h | h <;> omega) (by
            rw [i2]
            have := hf.fill
            simpa [cells] using this)
          simp [execOp, ho, hb]
      refine Step.value hdst hrun (Inv.gather (q := [0]) (o0 := 0) (m := b.n.getD t.depth) (nl := fun k => if k = w.heap.size then .own d [0] else .free) hI hd hid hf.srt hn hf.src ?_ ?_ ?_ ?_ ?_ rfl ?_ ?_)
      · intro s hs hvs
        obtain ⟨p, hp, rfl⟩ := List.mem_map.1 hs
        rw [List.all_eq_true] at hv
        have := hv p hp
        simp [hvs] at this
      · refine ⟨rfl, rfl, rfl, by simp, fun k hk _ => Go.RowKit.Below.heap_alloc w _ k hk, fun k hk => ?_, fun k s q hk h => ?_⟩
        · simp at hk
          rw [if_neg (by omega)]
        · split at h
          · injection h with h _; exact .inl h.symm
          · cases h
      · exact fun k hk => Go.RowKit.Below.heap_alloc w _ k hk
      · intro k k' q' hk h h'
        split at h
        · rename_i hkk
          injection h with _ h
          subst h
          unfold newLab at h'
          split at h'
          · exfalso
            obtain ⟨s0, q0, e0, f0⟩ := relab_own h'
            rcases gatherF_key f0 with ⟨_, _, _, _, _, _, _, h8⟩ | ⟨_, h7, h8, _⟩
            · have := congrArg List.length h8
              simp at this
            · exact h7 h8.symm
          · dsimp only at h'
            split at h'
            · omega
            · cases h'
        · cases h
      · intro k s q' hk h
        split at h
        · injection h with h _; exact h.symm
        · cases h
      · intro k q' hk
        simp [V.owns, Ty.depth]
      · intro T' tm'
        refine ⟨by simp, _, rfl, ?_⟩
        simp only [Own]
        have hL : newLab (gatherF d [0] 0 (b.n.getD t.depth) b.ms) w L (fun k => if k = w.heap.size then .own d [0] else .free) w.heap.size = .own d [0] := by
          unfold newLab
          rw [if_neg (by omega)]
          simp
        refine .inr ⟨w.heap.size, len, cells', by rw [hf.len], by simpa using hL, heap_new _ _, by rw [hf.len]; exact Nat.le_refl _, ?_, by rw [hf.size, hcs], fun j hj => ?_⟩
        · unfold maxLen
          have : len ≤ len * t.sz := Nat.le_mul_of_pos_right _ (by omega)
          omega
        · have := hf.own (newLab (gatherF d [0] 0 (b.n.getD t.depth) b.ms) w L (fun k => if k = w.heap.size then .own d [0] else .free)) (w.alloc (.cells cells' e)) d [0] 0 (b.n.getD t.depth) (fun n hn => by rw [hn]; exact Nat.le_refl _)
            (fun k hk => newLab_stable hI hk) (fun k hk => Go.RowKit.Below.heap_alloc w _ k (hI.lt hk)) (gatherF_went hI hn) j hj
          simpa using this
    · exact h2.elim
  · exact h.elim

end
end Go.Proofs.Ytdfcejijcnhcaaa.D.Am

set_option linter.unusedVariables false
set_option linter.unusedSimpArgs false
namespace Go.Proofs.Ytdfcejijcnhcaaa.D.Am

/-! ## 20. Operations in any order -/
abbrev Rec := List Nat × List (Nat × V)

def Rec.wr (r : Rec) : List Nat := r.2.map (·.1)
def Rec.rd (r : Rec) : List Nat := r.1 ++ r.wr

/-- The slots behind the records that D names, in their text's order. -/
def stD (D : Nat → Bool) : Nat → List Rec → List V → List V
  | _, [], T => T
  | i, r :: rs, T => stD D (i + 1) rs (if D i = true then setAll T r.2 else T)

theorem stD_length (D : Nat → Bool) : {i : Nat} → {rs : List Rec} → {T : List V} → (stD D i rs T).length = T.length
  | _, [], _ => rfl
  | i, r :: rs, T => by
    simp only [stD]
    rw [stD_length]
    split
    · exact length_setAll _ _
    · rfl

theorem setAll_getD_congr {ups : List (Nat × V)} {T T' : List V} {s : Nat} (hl : T.length = T'.length) (h : T.getD s .dead = T'.getD s .dead) : (setAll T ups).getD s .dead = (setAll T' ups).getD s .dead := by
  unfold setAll
  induction ups generalizing T T' with
  | nil => exact h
  | cons u l ih =>
    simp only [List.foldl_cons]
    refine ih (by simp [hl]) ?_
    rw [getD_set, getD_set, hl, h]

theorem stD_congr {D D' : Nat → Bool} {s : Nat} : {i : Nat} → {rs : List Rec} → {T T' : List V} → T.length = T'.length → T.getD s .dead = T'.getD s .dead →
    (∀ j r, rs[j]? = some r → s ∈ r.wr → D (i + j) = D' (i + j)) → (stD D i rs T).getD s .dead = (stD D' i rs T').getD s .dead
  | _, [], _, _, _, h, _ => h
  | i, r :: rs, T, T', hl, h, H => by
    simp only [stD]
    refine stD_congr ?_ ?_ (fun j r' hj hs => ?_)
    · split <;> split <;> simp [length_setAll, hl]
    · by_cases hs : s ∈ r.wr
      · have := H 0 r rfl hs
        simp only [Nat.add_zero] at this
        rw [this]
        split
        · exact setAll_getD_congr hl h
        · exact h
      · have e1 := getD_setAll r.2 T s hs
        have e2 := getD_setAll r.2 T' s hs
        split <;> split <;> simp only [e1, e2, h]
    · have := H (j + 1) r' (by simpa using hj) hs
      rwa [show i + 1 + j = i + (j + 1) by omega]

theorem stD_none {D : Nat → Bool} : {i : Nat} → {rs : List Rec} → {T : List V} → (∀ j, i ≤ j → D j = false) → stD D i rs T = T
  | _, [], _, _ => rfl
  | i, r :: rs, T, h => by
    simp only [stD]
    rw [h i (Nat.le_refl _), if_neg (by simp)]
    exact stD_none (fun j hj => h j (by omega))

theorem stD_lt_succ {n : Nat} : {i : Nat} → {rs : List Rec} → {T : List V} → {r : Rec} → rs[n]? = some r →
    stD (fun j => decide (j < i + n + 1)) i rs T = setAll (stD (fun j => decide (j < i + n)) i rs T) r.2 := by
  induction n with
  | zero =>
    intro i rs T r h
    cases rs with
    | nil => simp at h
    | cons r' rs =>
      simp only [List.getElem?_cons_zero, Option.some.injEq] at h
      subst h
      simp only [stD, Nat.add_zero]
      rw [if_pos (by simp), if_neg (by simp), stD_none (fun j hj => by simp; omega), stD_none (fun j hj => by simp; omega)]
  | succ n ih =>
    intro i rs T r h
    cases rs with
    | nil => simp at h
    | cons r' rs =>
      simp only [List.getElem?_cons_succ] at h
      simp only [stD]
      have := ih (i := i + 1) (T := if decide (i < i + (n + 1)) = true then setAll T r'.2 else T) h
      rw [show i + 1 + n = i + (n + 1) by omega] at this
      rw [if_pos (by simp; omega)]
      rw [if_pos (by simp)] at this
      rw [if_pos (by simp)]
      exact this

theorem list_ext {T T' : List V} (hl : T.length = T'.length) (h : ∀ s, T.getD s .dead = T'.getD s .dead) : T = T' := by
  apply List.ext_getElem hl
  intro i h1 h2
  have := h i
  simpa [List.getD_eq_getElem?_getD, h1, h2] using this

theorem setAll_qok {k : Nat} {ups : List (Nat × V)} (hu : ∀ u ∈ ups, qok k u.1 u.2 = true) : ∀ {T : List V}, (∀ s, s < T.length → qok k s (T.getD s .dead) = true) → ∀ s, s < T.length → qok k s ((setAll T ups).getD s .dead) = true := by
  unfold setAll
  induction ups with
  | nil => intro T h s hs; exact h s hs
  | cons u l ih =>
    intro T h s hs
    simp only [List.foldl_cons]
    refine ih (fun u' hu' => hu u' (by simp [hu'])) (fun s' hs' => ?_) s (by simpa using hs)
    rw [getD_set]
    split
    · rename_i he
      rw [he.1]
      exact hu u (by simp)
    · exact h s' (by simpa using hs')

theorem stD_qok {k : Nat} {D : Nat → Bool} : {i : Nat} → {rs : List Rec} → {T : List V} → (∀ r ∈ rs, ∀ u ∈ r.2, qok k u.1 u.2 = true) → (∀ s, s < T.length → qok k s (T.getD s .dead) = true) → ∀ s, s < T.length → qok k s ((stD D i rs T).getD s .dead) = true
  | _, [], _, _, h => h
  | i, r :: rs, T, hr, h => by
    simp only [stD]
    intro s hs
    refine stD_qok (fun r' hr' => hr r' (by simp [hr'])) (fun s' hs' => ?_) s ?_
    · split
      · exact setAll_qok (hr r (by simp)) h s' (by split at hs' <;> simpa [length_setAll] using hs')
      · exact h s' (by split at hs' <;> simpa [length_setAll] using hs')
    · split
      · rw [length_setAll]; exact hs
      · exact hs

/-- A question whose answer no record turns. -/
theorem stD_ask {k : Nat} {D : Nat → Bool} {i : Nat} {rs : List Rec} {T : List V} (hr : ∀ r ∈ rs, ∀ u ∈ r.2, qok k u.1 u.2 = true) (h : askOk k T = true) : askOk k (stD D i rs T) = true := by
  unfold askOk at h ⊢
  rw [Bool.and_eq_true] at h ⊢
  rw [stD_length]
  refine ⟨allQ_of fun s hs => ?_, h.2⟩
  rw [Nat.zero_add]
  rw [stD_length] at hs
  exact stD_qok hr (fun s' hs' => by have := allQ_get h.1 s' hs'; rwa [Nat.zero_add] at this) s hs

/-! ### the orders that may be drawn -/
section
variable {ops : Array Oper} {md : Region.Mode}

theorem binds_any {e : Edge} (h : Region.binds .any e = true) : Region.binds md e = true := by
  unfold Region.binds at *
  split <;> simp_all

/-- A list of operations in which each stands behind those that it waits for. -/
def Ordered (ops : Array Oper) : List Nat → List Nat → Prop
  | _, [] => True
  | done, i :: l => i ∉ done ∧ i < ops.size ∧ (∀ o, ops[i]? = some o → ∀ e ∈ o.after.toList, Region.binds .any e = true → e.on ∈ done) ∧ Ordered ops (i :: done) l

theorem lin_ordered : ∀ (fuel t : Nat) (listed : Array Bool) (done : List Nat), listed.size = ops.size → (∀ i, i < ops.size → (listed.getD i false = true ↔ i ∈ done)) → Ordered ops done (Region.linearise.go md ops fuel t listed []) := by
  intro fuel
  induction fuel with
  | zero => intro t listed done _ _; simp [Region.linearise.go, Ordered]
  | succ fuel ih =>
    intro t listed done hsz h
    simp only [Region.linearise.go]
    split
    · rename_i i hi
      rw [linearise_go_acc]
      simp only [List.reverse_cons, List.reverse_nil, List.nil_append, List.singleton_append]
      have hm := List.mem_of_getElem? hi
      simp only [List.mem_filter, List.mem_range, Bool.and_eq_true, Bool.not_eq_true'] at hm
      obtain ⟨hlt, hl, haf⟩ := hm
      have hl' : listed.getD i false = false := by
        have hlt' : i < listed.size := by omega
        simp only [Array.getD_eq_getD_getElem?, Array.getElem?_eq_getElem hlt', Option.getD_some] at hl ⊢
        exact hl
      refine ⟨fun hd => ?_, hlt, fun o ho e he hb => ?_, ?_⟩
      · rw [(h i hlt).2 hd] at hl'; cases hl'
      · rw [ho] at haf
        simp only [Option.map_some, Option.getD_some, Array.all_eq_true_iff_forall_mem, Bool.or_eq_true, Bool.not_eq_true'] at haf
        have := haf e (by simpa using he)
        rw [binds_any hb] at this
        simp only [Bool.true_eq_false, false_or] at this
        have hon : e.on < ops.size := by
          rcases Nat.lt_or_ge e.on ops.size with h | h
          · exact h
          · simp [Array.getD_eq_getD_getElem?, Array.getElem?_eq_none (show listed.size ≤ e.on by omega)] at this
        exact (h e.on hon).1 this
      · refine ih _ _ _ (by simp [hsz]) (fun j hj => ?_)
        simp only [Array.getD_eq_getD_getElem?, Array.getElem?_setIfInBounds, List.mem_cons]
        by_cases hji : i = j
        · subst hji
          simp [hsz, hlt]
        · have := h j hj
          simp only [Array.getD_eq_getD_getElem?] at this
          simp [hji, this, Ne.symm hji]
    · simp [Ordered]

theorem nodup_lt : ∀ (n : Nat) (l : List Nat), l.Nodup → (∀ x ∈ l, x < n) → l.length ≤ n
  | 0, l, _, h => by
    cases l with
    | nil => simp
    | cons x l => exact absurd (h x (by simp)) (by omega)
  | n + 1, l, hn, h => by
    have h1 := nodup_lt n (l.filter (· != n)) (hn.filter _) (fun x hx => by
      simp only [List.mem_filter, bne_iff_ne] at hx
      have := h x hx.1
      omega)
    by_cases hm : n ∈ l
    · have : l.length ≤ (l.filter (· != n)).length + 1 := by
        clear h h1
        induction l with
        | nil => simp
        | cons x l ih =>
          rw [List.nodup_cons] at hn
          by_cases hx : x = n
          · subst hx
            have : l.filter (· != x) = l := by
              rw [List.filter_eq_self]
              intro y hy
              simp only [bne_iff_ne]
              rintro rfl
              exact hn.1 hy
            simp [this]
          · rw [List.filter_cons_of_pos (by simpa using hx)]
            have := ih hn.2 (by rcases List.mem_cons.1 hm with h | h; exact absurd h.symm hx; exact h)
            simp only [List.length_cons]
            omega
      omega
    · have : l.filter (· != n) = l := by
        rw [List.filter_eq_self]
        intro y hy
        simp only [bne_iff_ne]
        rintro rfl
        exact hm hy
      rw [this] at h1
      omega

theorem lin_all (hb : ∀ (i : Nat) (o : Oper), ops[i]? = some o → ∀ e ∈ o.after.toList, Region.binds md e = true → e.on < i) : ∀ (fuel t : Nat) (listed : Array Bool) (done : List Nat), listed.size = ops.size → (∀ i, i < ops.size → (listed.getD i false = true ↔ i ∈ done)) →
    ops.size ≤ done.length + fuel → done.Nodup → (∀ i ∈ done, i < ops.size) → ∀ i, i < ops.size → i ∈ done ∨ i ∈ Region.linearise.go md ops fuel t listed [] := by
  intro fuel
  induction fuel with
  | zero =>
    intro t listed done hsz h hle hnd hin i hi
    left
    apply Classical.byContradiction
    intro hni
    have h1 : (i :: done).Nodup := List.nodup_cons.2 ⟨hni, hnd⟩
    have := nodup_lt ops.size (i :: done) h1 (fun j hj => by
      rcases List.mem_cons.1 hj with rfl | hj
      · exact hi
      · exact hin j hj)
    simp at this
    omega
  | succ fuel ih =>
    intro t listed done hsz h hle hnd hin i hi
    simp only [Region.linearise.go]
    split
    · rename_i j hj
      rw [linearise_go_acc]
      simp only [List.reverse_cons, List.reverse_nil, List.nil_append, List.singleton_append, List.mem_cons]
      have hm := List.mem_of_getElem? hj
      simp only [List.mem_filter, List.mem_range, Bool.and_eq_true, Bool.not_eq_true'] at hm
      obtain ⟨hlt, hl, haf⟩ := hm
      have hjd : j ∉ done := fun hd => by
        have := (h j hlt).2 hd
        have hlt' : j < listed.size := by omega
        simp only [Array.getD_eq_getD_getElem?, Array.getElem?_eq_getElem hlt', Option.getD_some] at hl this
        rw [this] at hl; cases hl
      rcases ih (t / _) (listed.setIfInBounds j true) (j :: done) (by simp [hsz]) (fun k hk => by
        simp only [Array.getD_eq_getD_getElem?, Array.getElem?_setIfInBounds, List.mem_cons]
        by_cases hji : j = k
        · subst hji
          simp [hsz, hlt]
        · have := h k hk
          simp only [Array.getD_eq_getD_getElem?] at this
          simp [hji, this, Ne.symm hji]) (by simp only [List.length_cons]; omega) (List.nodup_cons.2 ⟨hjd, hnd⟩) (fun k hk => by
          rcases List.mem_cons.1 hk with rfl | hk
          · exact hlt
          · exact hin k hk) i hi with h' | h'
      · rcases List.mem_cons.1 h' with rfl | h'
        · exact .inr (.inl rfl)
        · exact .inl h'
      · exact .inr (.inr h')
    · rename_i hno
      left
      -- nothing is ready: all is listed
      apply Classical.byContradiction
      intro hni
      -- the least unlisted
      have hex : ∃ k, k < ops.size ∧ k ∉ done ∧ ∀ k', k' < k → k' ∈ done := by
        have key : ∀ n, (∃ k, k < n ∧ k ∉ done ∧ k < ops.size) → ∃ k, k < ops.size ∧ k ∉ done ∧ ∀ k', k' < k → k' ∈ done := by
          intro n
          induction n with
          | zero => rintro ⟨k, hk, _⟩; omega
          | succ n ihn =>
            rintro ⟨k, hk, hkd, hks⟩
            by_cases hall : ∀ k', k' < k → k' ∈ done
            · exact ⟨k, hks, hkd, hall⟩
            · obtain ⟨k', hk'⟩ := Classical.not_forall.1 hall
              obtain ⟨h1, h2⟩ := Classical.not_imp.1 hk'
              exact ihn ⟨k', by omega, h2, by omega⟩
        exact key (i + 1) ⟨i, by omega, hni, hi⟩
      obtain ⟨k, hks, hkd, hall⟩ := hex
      have hready : k ∈ (List.range ops.size).filter fun i => !listed.getD i true && ((ops[i]?).map (·.after.all fun e => !Region.binds md e || listed.getD e.on false)).getD false := by
        simp only [List.mem_filter, List.mem_range, Bool.and_eq_true, Bool.not_eq_true']
        refine ⟨hks, ?_, ?_⟩
        · have hk' : k < listed.size := by omega
          have h3 : ¬ (listed.getD k false = true) := fun e => hkd ((h k hks).1 e)
          simp only [Array.getD_eq_getD_getElem?, Array.getElem?_eq_getElem hk', Option.getD_some] at h3 ⊢
          simpa using h3
        · rw [Array.getElem?_eq_getElem hks]
          simp only [Option.map_some, Option.getD_some, Array.all_eq_true_iff_forall_mem, Bool.or_eq_true]
          intro e he
          cases hbd : Region.binds md e with
          | false => exact .inl rfl
          | true =>
            have hlt := hb k _ (Array.getElem?_eq_getElem hks) e (by simpa using he) hbd
            exact .inr ((h e.on (by omega)).2 (hall _ hlt))
      have hlen : 0 < ((List.range ops.size).filter fun i => !listed.getD i true && ((ops[i]?).map (·.after.all fun e => !Region.binds md e || listed.getD e.on false)).getD false).length := List.length_pos_of_mem hready
      have := List.getElem?_eq_none_iff.1 hno
      have h4 := Nat.mod_lt t hlen
      omega

theorem sched_ordered {mixed : Bool} {t : Nat} : Ordered ops [] (Region.schedule mixed ops t) := by
  unfold Region.schedule
  split
  · exact lin_ordered _ _ _ _ (by simp) (fun i hi => by simp [Array.getD_eq_getD_getElem?, hi])
  · exact lin_ordered _ _ _ _ (by simp) (fun i hi => by simp [Array.getD_eq_getD_getElem?, hi])

theorem sched_all (hb : ∀ (i : Nat) (o : Oper), ops[i]? = some o → ∀ e ∈ o.after.toList, Region.binds .any e = true → e.on < i) {t : Nat} : ∀ i, i < ops.size → i ∈ Region.schedule true ops t := by
  intro i hi
  unfold Region.schedule
  rw [if_pos (by simp)]
  exact (lin_all hb _ _ _ [] (by simp) (fun i hi => by simp [Array.getD_eq_getD_getElem?, hi]) (by simp) (by simp) (by simp) i hi).resolve_left (by simp)

/-- Whom an operation stands behind, as a set of bits. -/
def preds : List Oper → List Nat → List Nat
  | [], acc => acc
  | o :: l, acc => preds l (acc ++ [o.after.foldl (fun s e => if Region.binds .any e = true then s ||| 2 ^ e.on ||| acc.getD e.on 0 else s) 0])

/-- D holds with an operation whatever it stands behind. -/
def Closed (ops : Array Oper) (D : Nat → Prop) : Prop := ∀ i, D i → ∀ o, ops[i]? = some o → ∀ e ∈ o.after.toList, Region.binds .any e = true → D e.on

theorem fold_bit {acc : List Nat} {k : Nat} : {es : List Edge} → {s0 : Nat} → (es.foldl (fun s e => if Region.binds .any e = true then s ||| 2 ^ e.on ||| acc.getD e.on 0 else s) s0).testBit k = true →
    s0.testBit k = true ∨ ∃ e ∈ es, Region.binds .any e = true ∧ (e.on = k ∨ (acc.getD e.on 0).testBit k = true)
  | [], _, h => .inl h
  | e :: es, s0, h => by
    simp only [List.foldl_cons] at h
    rcases fold_bit h with h | ⟨e', he', h1, h2⟩
    · split at h
      · rename_i hb
        simp only [Nat.testBit_or, Bool.or_eq_true] at h
        rcases h with (h | h) | h
        · exact .inl h
        · refine .inr ⟨e, by simp, hb, .inl ?_⟩
          rw [Nat.testBit_two_pow] at h
          simpa using h
        · exact .inr ⟨e, by simp, hb, .inr h⟩
      · exact .inl h
    · exact .inr ⟨e', by simp [he'], h1, h2⟩

theorem preds_closed {D : Nat → Prop} (hD : Closed ops D) : {l : List Oper} → {acc : List Nat} → (∀ j o, l[j]? = some o → ops[acc.length + j]? = some o) →
    (∀ j k, D j → (acc.getD j 0).testBit k = true → D k) → ∀ j k, D j → ((preds l acc).getD j 0).testBit k = true → D k
  | [], acc, _, h => h
  | o :: l, acc, ho, h => by
    simp only [preds]
    refine preds_closed hD (fun j o' hj => ?_) (fun j k hj hk => ?_)
    · have := ho (j + 1) o' (by simpa using hj)
      rw [show acc.length + (j + 1) = (acc ++ [o.after.foldl (fun s e => if Region.binds .any e = true then s ||| 2 ^ e.on ||| acc.getD e.on 0 else s) 0]).length + j by simp; omega] at this
      exact this
    · rw [List.getD_eq_getElem?_getD] at hk
      by_cases hlt : j < acc.length
      · rw [List.getElem?_append_left hlt] at hk
        exact h j k hj (by rw [List.getD_eq_getElem?_getD]; exact hk)
      · by_cases he : j = acc.length
        · subst he
          rw [List.getElem?_append_right (Nat.le_refl _)] at hk
          simp only [Nat.sub_self, List.getElem?_cons_zero, Option.getD_some] at hk
          rw [← Array.foldl_toList] at hk
          rcases fold_bit hk with hk | ⟨e, he, hb, hk⟩
          · simp at hk
          · have h0 := ho 0 o rfl
            have hon := hD _ hj o h0 e he hb
            rcases hk with rfl | hk
            · exact hon
            · exact h _ _ hon hk
        · rw [List.getElem?_eq_none (by simp; omega)] at hk
          simp at hk

end
end Go.Proofs.Ytdfcejijcnhcaaa.D.Am

set_option linter.unusedVariables false
set_option linter.unusedSimpArgs false
namespace Go.Proofs.Ytdfcejijcnhcaaa.D.Am

/-! ## 21. A region, in whatever order -/
def Act1 (P : Program) (ops : Array Oper) (J : List V → Act → World → Prop) (Q : Exit → Act → World → Prop) (o : Oper) (T T' : List V) : Prop :=
  ∀ (a : Act) (w : World), J T a w → ∀ K : Act → World → Prop, (∀ a' w', J T' a' w' → K a' w') →
    if Region.wanted o (yielded ops a.tmps) = true then o.wp P a w K Q else K (a.put o.dst undef) w

/-- What conflicts is in order. -/
def Tied (ops : Array Oper) (recs : List Rec) : Prop :=
  ∀ i j ri rj, i < j → recs[i]? = some ri → recs[j]? = some rj → (∃ s, s < tagK ∧ ((s ∈ ri.wr ∧ s ∈ rj.rd) ∨ (s ∈ rj.wr ∧ s ∈ ri.rd))) →
    ((preds ops.toList []).getD j 0).testBit i = true

section
variable {P : Program} {ops : Array Oper} {J : List V → Act → World → Prop} {Q : Exit → Act → World → Prop} {N : Nat} {recs : List Rec} {T0 : List V}

theorem wpOps_step {i : Nat} {o : Oper} {l : List Nat} {a : Act} {w : World} (ho : ops[i]? = some o)
    (h : if Region.wanted o (yielded ops a.tmps) = true then o.wp P a w (wpOps P ops Q l) Q else wpOps P ops Q l (a.put o.dst undef) w) : wpOps P ops Q (i :: l) a w := by
  simp only [wpOps, ho]
  split
  · rename_i hw
    rw [if_pos hw] at h
    exact .inl h
  · rename_i hw
    rw [if_neg hw] at h
    exact h

theorem mem_wr_rd {r : Rec} {s : Nat} (h : s ∈ r.wr) : s ∈ r.rd := List.mem_append_right _ h

theorem region_any (hT0 : T0.length = N) (hN : N ≤ tagK) (hn : recs.length = ops.size) (hask : ∀ r ∈ recs, ∀ s ∈ r.1, tagK ≤ s → askOk s T0 = true ∧ ∀ r' ∈ recs, ∀ u ∈ r'.2, qok s u.1 u.2 = true)
    (hloc : ∀ i o r, ops[i]? = some o → recs[i]? = some r → ∀ T, T.length = N → (∀ s ∈ r.rd, s < tagK → T.getD s .dead = (stD (fun j => decide (j < i)) 0 recs T0).getD s .dead) → (∀ s ∈ r.1, tagK ≤ s → askOk s T = true) → Act1 P ops J Q o T (setAll T r.2))
    (hc : Tied ops recs) (hQ : ∀ a' w', J (stD (fun _ => true) 0 recs T0) a' w' → Q .normal a' w') :
    ∀ (l done : List Nat), Ordered ops done l → Closed ops (· ∈ done) → (∀ i, i < ops.size → i ∈ done ∨ i ∈ l) → ∀ a w, J (stD (fun j => done.contains j) 0 recs T0) a w → wpOps P ops Q l a w
  | [], done, _, _, hall, a, w, hJ => by
    simp only [wpOps]
    apply hQ
    have : stD (fun _ => true) 0 recs T0 = stD (fun j => done.contains j) 0 recs T0 := by
      refine list_ext (by rw [stD_length, stD_length]) (fun s => stD_congr rfl rfl (fun j r hj _ => ?_))
      have hlt : j < ops.size := by
        rw [← hn]
        exact (List.getElem?_eq_some_iff.1 hj).1
      have := (hall j hlt).resolve_right (by simp)
      simp [this]
    rw [this]
    exact hJ
  | i :: l, done, ⟨hid, hlt, haf, hord⟩, hcl, hall, a, w, hJ => by
    obtain ⟨r, hr⟩ : ∃ r, recs[i]? = some r := ⟨_, List.getElem?_eq_getElem (by rw [hn]; exact hlt)⟩
    have ho : ops[i]? = some ops[i] := Array.getElem?_eq_getElem hlt
    refine wpOps_step ho ?_
    -- whom i stands behind is done
    have hpred : ∀ k, ((preds ops.toList []).getD i 0).testBit k = true → k ∈ i :: done → True := fun _ _ _ => trivial
    have hcl' : Closed ops (· ∈ i :: done) := by
      intro j hj o' ho' e he hb
      rcases List.mem_cons.1 hj with rfl | hj
      · exact List.mem_cons_of_mem _ (haf o' ho' e he hb)
      · exact List.mem_cons_of_mem _ (hcl j hj o' ho' e he hb)
    have hpre : ∀ {D : Nat → Prop}, Closed ops D → ∀ j k, D j → ((preds ops.toList []).getD j 0).testBit k = true → D k := fun hD j k hj hk =>
      preds_closed hD (l := ops.toList) (acc := []) (fun j o hj => by simpa using hj) (fun j k _ h => by simp at h) j k hj hk
    -- a record that touches what i touches is done exactly if it stands before i
    have hkey : ∀ j rj s, recs[j]? = some rj → j ≠ i → s < tagK → (s ∈ rj.wr ∧ s ∈ r.rd) → (done.contains j = decide (j < i)) := by
      intro j rj s hj hji hsk hs
      rcases Nat.lt_or_gt_of_ne hji with h | h
      · have := hc j i rj r h hj hr ⟨s, hsk, .inl hs⟩
        have := hpre hcl' i j (by simp) this
        have hjd : j ∈ done := by
          rcases List.mem_cons.1 this with rfl | h
          · exact absurd rfl hji
          · exact h
        simp [hjd, h]
      · have hp := hc i j r rj h hr hj ⟨s, hsk, .inr hs⟩
        have hjd : j ∉ done := fun hjd => hid (hpre hcl j i hjd hp)
        simp [hjd]
        omega
    have hagree : ∀ s ∈ r.rd, s < tagK → (stD (fun j => done.contains j) 0 recs T0).getD s .dead = (stD (fun j => decide (j < i)) 0 recs T0).getD s .dead := by
      intro s hs hsk
      refine stD_congr rfl rfl (fun j rj hj hw => ?_)
      simp only [Nat.zero_add]
      by_cases hji : j = i
      · subst hji
        simp [hid]
      · exact hkey j rj s hj hji hsk ⟨hw, hs⟩
    have hact := hloc i _ r ho hr _ (by rw [stD_length, hT0]) hagree (fun s hs hk => by
      obtain ⟨h1, h2⟩ := hask r (List.mem_of_getElem? hr) s hs hk
      exact stD_ask h2 h1) a w hJ
    refine hact _ (fun a' w' hJ' => region_any hT0 hN hn hask hloc hc hQ l (i :: done) hord hcl' (fun k hk => ?_) a' w' ?_)
    · rcases hall k hk with h | h
      · exact .inl (by simp [h])
      · rcases List.mem_cons.1 h with rfl | h
        · exact .inl (by simp)
        · exact .inr h
    · have : stD (fun j => (i :: done).contains j) 0 recs T0 = setAll (stD (fun j => done.contains j) 0 recs T0) r.2 := by
        refine list_ext (by rw [stD_length, length_setAll, stD_length]) (fun s => ?_)
        by_cases hsk : s < tagK
        case neg => rw [getD_out (by rw [stD_length, hT0]; omega), getD_out (by rw [length_setAll, stD_length, hT0]; omega)]
        by_cases hs : s ∈ r.wr
        · have h1 : (setAll (stD (fun j => done.contains j) 0 recs T0) r.2).getD s .dead = (setAll (stD (fun j => decide (j < i)) 0 recs T0) r.2).getD s .dead :=
            setAll_getD_congr (by rw [stD_length, stD_length]) (hagree s (mem_wr_rd hs) hsk)
          have h2 := stD_lt_succ (i := 0) (T := T0) hr
          simp only [Nat.zero_add] at h2
          rw [h1, ← h2]
          refine stD_congr rfl rfl (fun j rj hj hw => ?_)
          simp only [Nat.zero_add]
          by_cases hji : j = i
          · subst hji
            simp
          · have h3 := hkey j rj s hj hji hsk ⟨hw, mem_wr_rd hs⟩
            simp only [List.contains_cons, h3]
            have : (j == i) = false := by simpa using hji
            rw [this, Bool.false_or]
            simp
            omega
        · rw [getD_setAll _ _ _ hs]
          refine stD_congr rfl rfl (fun j rj hj hw => ?_)
          simp only [Nat.zero_add]
          have hji : j ≠ i := by
            rintro rfl
            rw [hr] at hj
            injection hj with hj
            subst hj
            exact hs hw
          simp [hji]
      rw [this]
      exact hJ'

/-- Bits of a list. -/
def mask : List Nat → Nat
  | [] => 0
  | s :: l => cond (Nat.blt s tagK) (2 ^ s ||| mask l) (mask l)

theorem mask_bit {l : List Nat} {s : Nat} (h : s ∈ l) (hk : s < tagK) : (mask l).testBit s = true := by
  induction l with
  | nil => cases h
  | cons x l ih =>
    simp only [mask]
    cases hx : Nat.blt x tagK with
    | true =>
      simp only [cond_true, Nat.testBit_or, Bool.or_eq_true]
      rcases List.mem_cons.1 h with rfl | h
      · left; simp [Nat.testBit_two_pow]
      · exact .inr (ih h)
    | false =>
      rcases List.mem_cons.1 h with rfl | h
      · have : Nat.blt s tagK = true := by rw [Nat.blt_eq]; exact hk
        rw [hx] at this; cases this
      · exact ih h

def tiedAt (pj rj wj : Nat) : Nat → List (Nat × Nat) → Bool
  | _, [] => true
  | i, (ri, wi) :: l => ((wi &&& rj == 0 && wj &&& ri == 0) || pj.testBit i) && tiedAt pj rj wj (i + 1) l

def tiedB : List Nat → List (Nat × Nat) → List (Nat × Nat) → Bool
  | pj :: ps, done, (rj, wj) :: l => tiedAt pj rj wj 0 done && tiedB ps (done ++ [(rj, wj)]) l
  | _, _, _ => true

theorem tiedAt_spec {pj rj wj : Nat} : {i : Nat} → {l : List (Nat × Nat)} → tiedAt pj rj wj i l = true → ∀ k ri wi, l[k]? = some (ri, wi) → (wi &&& rj = 0 ∧ wj &&& ri = 0) ∨ pj.testBit (i + k) = true
  | _, [], _, k, ri, wi, hk => by simp at hk
  | i, (r, w) :: l, h, k, ri, wi, hk => by
    simp only [tiedAt, Bool.and_eq_true, Bool.or_eq_true, beq_iff_eq] at h
    cases k with
    | zero =>
      simp only [List.getElem?_cons_zero, Option.some.injEq, Prod.mk.injEq] at hk
      obtain ⟨rfl, rfl⟩ := hk
      exact h.1
    | succ k =>
      have := tiedAt_spec h.2 k ri wi (by simpa using hk)
      rwa [show i + 1 + k = i + (k + 1) by omega] at this

theorem tiedB_spec : {ps : List Nat} → {done l : List (Nat × Nat)} → tiedB ps done l = true → ps.length = l.length → ∀ k pj rj wj, ps[k]? = some pj → l[k]? = some (rj, wj) →
    ∀ i ri wi, i < done.length + k → (done ++ l)[i]? = some (ri, wi) → (wi &&& rj = 0 ∧ wj &&& ri = 0) ∨ pj.testBit i = true
  | [], _, _, _, _, _, _, _, _, hk, _, _, _, _, _, _ => by simp at hk
  | p :: ps, done, [], _, hl, _, _, _, _, _, _, _, _, _, _, _ => by simp at hl
  | p :: ps, done, (r, w) :: l, h, hl, k, pj, rj, wj, hk, hj, i, ri, wi, hi, hii => by
    simp only [tiedB, Bool.and_eq_true] at h
    cases k with
    | zero =>
      simp only [List.getElem?_cons_zero, Option.some.injEq, Prod.mk.injEq] at hk hj
      subst hk
      obtain ⟨rfl, rfl⟩ := hj
      rw [List.getElem?_append_left (by simpa using hi)] at hii
      have := tiedAt_spec h.1 i ri wi hii
      simpa using this
    | succ k =>
      refine tiedB_spec h.2 (by simpa using hl) k pj rj wj (by simpa using hk) (by simpa using hj) i ri wi (by simp; omega) ?_
      simpa using hii

theorem preds_length : {l : List Oper} → {acc : List Nat} → (preds l acc).length = acc.length + l.length
  | [], _ => rfl
  | o :: l, acc => by simp only [preds, preds_length, List.length_append, List.length_cons, List.length_nil]; omega

theorem tied_of {recs : List Rec} (hn : recs.length = ops.size) (h : tiedB (preds ops.toList []) [] (recs.map fun r => (mask r.rd, mask r.wr)) = true) : Tied ops recs := by
  intro i j ri rj hij hi hj hs
  have hlt : j < ops.size := by rw [← hn]; exact (List.getElem?_eq_some_iff.1 hj).1
  have hp : (preds ops.toList [])[j]? = some ((preds ops.toList []).getD j 0) := by
    rw [List.getD_eq_getElem?_getD, List.getElem?_eq_getElem (by rw [preds_length]; simpa using hlt)]
    rfl
  have := tiedB_spec h (by rw [preds_length]; simp [hn]) j _ (mask rj.rd) (mask rj.wr) hp (by simp [hj]) i (mask ri.rd) (mask ri.wr) (by simpa using hij) (by simp [hi])
  rcases this with ⟨h1, h2⟩ | h
  · exfalso
    obtain ⟨s, hsk, ⟨ha, hb⟩ | ⟨ha, hb⟩⟩ := hs
    · have : (mask ri.wr &&& mask rj.rd).testBit s = true := by rw [Nat.testBit_and, mask_bit ha hsk, mask_bit hb hsk]; rfl
      rw [h1] at this
      simp at this
    · have : (mask rj.wr &&& mask ri.rd).testBit s = true := by rw [Nat.testBit_and, mask_bit ha hsk, mask_bit hb hsk]; rfl
      rw [h2] at this
      simp at this
  · exact h

/-- Each edge leads back. -/
def backB : Nat → List Oper → Bool
  | _, [] => true
  | i, o :: l => o.after.all (fun e => !Region.binds .any e || decide (e.on < i)) && backB (i + 1) l

theorem backB_spec : {i : Nat} → {l : List Oper} → backB i l = true → ∀ (k : Nat) (o : Oper), l[k]? = some o → ∀ e ∈ o.after.toList, Region.binds .any e = true → e.on < i + k
  | _, [], _, k, o, hk, _, _, _ => by simp at hk
  | i, x :: l, h, k, o, hk, e, he, hbd => by
    simp only [backB, Bool.and_eq_true] at h
    cases k with
    | zero =>
      simp only [List.getElem?_cons_zero, Option.some.injEq] at hk
      subst hk
      have := Array.all_eq_true_iff_forall_mem.1 h.1 e (by simpa using he)
      rw [hbd] at this
      simpa using this
    | succ k =>
      have := backB_spec h.2 k o (by simpa using hk) e he hbd
      omega

theorem backs (h : backB 0 ops.toList = true) : ∀ (i : Nat) (o : Oper), ops[i]? = some o → ∀ e ∈ o.after.toList, Region.binds .any e = true → e.on < i := fun i o ho e he hbd => by
  have := backB_spec h i o (by simpa using ho) e he hbd
  simpa using this

/-- Each question stood at the start, and no record turns its answer. -/
def asksB (T0 : List V) (recs : List Rec) : Bool := recs.all fun r => r.1.all fun s => cond (Nat.blt s tagK) true (askOk s T0 && recs.all fun r' => r'.2.all fun u => qok s u.1 u.2)

theorem asks_of {T0 : List V} {recs : List Rec} (h : asksB T0 recs = true) : ∀ r ∈ recs, ∀ s ∈ r.1, tagK ≤ s → askOk s T0 = true ∧ ∀ r' ∈ recs, ∀ u ∈ r'.2, qok s u.1 u.2 = true := by
  intro r hr s hs hk
  unfold asksB at h
  rw [List.all_eq_true] at h
  have h1 := h r hr
  rw [List.all_eq_true] at h1
  have h2 := h1 s hs
  have hb : Nat.blt s tagK = false := by
    rw [Bool.eq_false_iff]
    intro hb
    rw [Nat.blt_eq] at hb
    exact Nat.not_lt.2 hk hb
  rw [hb, cond_false, Bool.and_eq_true, List.all_eq_true] at h2
  refine ⟨h2.1, fun r' hr' u hu => ?_⟩
  have h3 := h2.2 r' hr'
  rw [List.all_eq_true] at h3
  exact h3 u hu

end
end Go.Proofs.Ytdfcejijcnhcaaa.D.Am

set_option linter.unusedVariables false
set_option linter.unusedSimpArgs false
namespace Go.Proofs.Ytdfcejijcnhcaaa.D.Am

/-! ## 22. Code as a function of the slots -/
inductive Ex where
  | nrm
  | ext (id : Nat)
  | ret

def keepL (ks : Nat) : Nat → List V → List V
  | _, [] => []
  | i, v :: l => (cond (ks.testBit i) v .dead) :: keepL ks (i + 1) l

/-- What is kept hangs on nothing that is given up. -/
def keepOk (ks : Nat) (T : List V) : Nat → List V → Bool
  | _, [] => true
  | i, v :: l => (!ks.testBit i || (match v.root with
    | none => true
    | some r => ks.testBit r || !(T.getD r .dead).owns)) && keepOk ks T (i + 1) l

/-- Only the named slots are kept. -/
def keepK {R : Type} (ks : Option Nat) (T : List V) (K : List V → Option R) : Option R :=
  match ks with
  | none => K T
  | some m => cond (keepOk m T 0 T) (K (keepL m 0 T)) none

structure Env where
  step : Oper → M (List (Nat × V))
  N : Nat
  /-- slots that are never written -/
  pins : Nat → Bool
  /-- which slots live at a region -/
  keep : Nat → Option Nat

def pinOk (E : Env) (o : Oper) : Bool := match o.dst with
  | some d => !E.pins d
  | none => true

def skipUps (E : Env) (o : Oper) (T : List V) : Option (List Nat × List (Nat × V)) := match o.dst with
  | none => some ([], [])
  | some d => cond ((T.getD d .dead).idle && decide (d < E.N)) (some ([d], [(d, .tup [])])) none

def opsK {R : Type} (E : Env) (ops : Array Oper) (draw : Bool) (K : List V → Option R) (T0 : List V) : List Oper → List V → List Rec → Option R
  | [], T, recs => cond (!draw || (backB 0 ops.toList && tiedB (preds ops.toList []) [] (recs.map fun r => (mask r.rd, mask r.wr)) && asksB T0 recs && decide (E.N ≤ tagK))) (K T) none
  | o :: l, T, recs => cond (pinOk E o) (match o.guard with
    | none => (E.step o).runK T [] fun log ups => opsK E ops draw K T0 l (setAll T ups) (recs ++ [(log, ups)])
    | some (j, want) => match (ops[j]?).bind (·.dst) with
      | none => none
      | some g => match T.getD g .dead with
        | .d l0 n0 .bool b => cond b
            (cond want
              ((E.step o).runK (T.set g (.d l0 n0 .bool true)) [g] fun log ups => opsK E ops draw K T0 l (setAll (T.set g (.d l0 n0 .bool true)) ups) (recs ++ [(log, ups)]))
              ((skipUps E o (T.set g (.d l0 n0 .bool true))).bind fun u => opsK E ops draw K T0 l (setAll (T.set g (.d l0 n0 .bool true)) u.2) (recs ++ [(g :: u.1, u.2)])))
            (cond want
              ((skipUps E o (T.set g (.d l0 n0 .bool false))).bind fun u => opsK E ops draw K T0 l (setAll (T.set g (.d l0 n0 .bool false)) u.2) (recs ++ [(g :: u.1, u.2)]))
              ((E.step o).runK (T.set g (.d l0 n0 .bool false)) [g] fun log ups => opsK E ops draw K T0 l (setAll (T.set g (.d l0 n0 .bool false)) ups) (recs ++ [(log, ups)])))
        | .tup [] => (skipUps E o T).bind fun u => opsK E ops draw K T0 l (setAll T u.2) (recs ++ [(g :: u.1, u.2)])
        | _ => none) none

/-! ### the least solution of a tail call -/
def iterO {α R : Type} (B : (α → Option R) → α → Option R) : Nat → α → Option R
  | 0, _ => none
  | n + 1, x => B (iterO B n) x

noncomputable def fixO {α R : Type} (B : (α → Option R) → α → Option R) (x : α) : Option R :=
  open Classical in if h : ∃ n r, iterO B n x = some r then some (Classical.choose (Classical.choose_spec h)) else none

def TailO {α R : Type} (B : (α → Option R) → α → Option R) : Prop :=
  ∀ f x r, B f x = some r → (∀ g, B g x = some r) ∨ ∃ y, f y = some r ∧ ∀ g, g y = some r → B g x = some r

theorem iterO_succ {α R : Type} {B : (α → Option R) → α → Option R} (hB : TailO B) : ∀ n x r, iterO B n x = some r → iterO B (n + 1) x = some r
  | 0, x, r, h => by cases h
  | n + 1, x, r, h => by
    simp only [iterO] at h
    rcases hB _ _ _ h with h | ⟨y, hy, h⟩
    · exact h _
    · exact h _ (iterO_succ hB n y r hy)

theorem iterO_le {α R : Type} {B : (α → Option R) → α → Option R} (hB : TailO B) {n m : Nat} (h : n ≤ m) {x : α} {r : R} (hr : iterO B n x = some r) : iterO B m x = some r := by
  induction h with
  | refl => exact hr
  | step _ ih => exact iterO_succ hB _ _ _ ih

theorem fixO_some {α R : Type} {B : (α → Option R) → α → Option R} (hB : TailO B) {x : α} {r : R} : fixO B x = some r ↔ ∃ n, iterO B n x = some r := by
  unfold fixO
  constructor
  · intro h
    split at h
    · rename_i hh
      injection h with h
      have := Classical.choose_spec (Classical.choose_spec hh)
      rw [h] at this
      exact ⟨_, this⟩
    · cases h
  · rintro ⟨n, hn⟩
    have hh : ∃ n r, iterO B n x = some r := ⟨n, r, hn⟩
    rw [dif_pos hh]
    have h1 := Classical.choose_spec (Classical.choose_spec hh)
    have h2 := iterO_le hB (Nat.le_max_left _ n) h1
    have h3 := iterO_le hB (Nat.le_max_right (Classical.choose hh) n) hn
    rw [h2] at h3
    exact h3

theorem fixO_eq {α R : Type} {B : (α → Option R) → α → Option R} (hB : TailO B) (x : α) : fixO B x = B (fixO B) x := by
  have key : ∀ r, fixO B x = some r ↔ B (fixO B) x = some r := by
    intro r
    constructor
    · intro h
      obtain ⟨n, hn⟩ := (fixO_some hB).1 h
      cases n with
      | zero => cases hn
      | succ n =>
        rcases hB _ _ _ hn with h | ⟨y, hy, h⟩
        · exact h _
        · exact h _ ((fixO_some hB).2 ⟨n, hy⟩)
    · intro h
      rcases hB _ _ _ h with h | ⟨y, hy, h⟩
      · exact (fixO_some hB).2 ⟨1, h _⟩
      · obtain ⟨n, hn⟩ := (fixO_some hB).1 hy
        exact (fixO_some hB).2 ⟨n + 1, h _ hn⟩
  cases h1 : fixO B x with
  | some r => exact ((key r).1 h1).symm
  | none =>
    cases h2 : B (fixO B) x with
    | none => rfl
    | some r => rw [(key r).2 h2] at h1; cases h1

def firstRegion : Code → Option Nat
  | .region id _ _ => some id
  | .seq a b => match firstRegion a with
    | some i => some i
    | none => firstRegion b
  | .block _ c => firstRegion c
  | .loop c => firstRegion c
  | .cond _ a _ => firstRegion a
  | _ => none

/-- The key of a loop's head in the table of living slots. -/
def loopKey (c : Code) : Nat := 1000000 + (firstRegion c).getD 0

noncomputable def denK (E : Env) {R : Type} : Code → (Ex → List V → Option R) → List V → Option R
  | .skip, k, T => k .nrm T
  | .label _, k, T => k .nrm T
  | .region id ops draw, k, T => keepK (E.keep id) T fun T => opsK E ops draw (k .nrm) T ops.toList T []
  | .seq a b, k, T => denK E a (fun e T' => match e with
    | .nrm => denK E b k T'
    | .ext i => k (.ext i) T'
    | .ret => k .ret T') T
  | .cond (.tmp t) a b, k, T => match T.getD t .dead with
    | .d l0 n0 .bool x => cond x (denK E a k (T.set t (.d l0 n0 .bool true))) (denK E b k (T.set t (.d l0 n0 .bool false)))
    | _ => none
  | .block id c, k, T => denK E c (fun e T' => match e with
    | .nrm => k .nrm T'
    | .ext i => cond (i == id) (k .nrm T') (k (.ext i) T')
    | .ret => k .ret T') T
  | .exit id, k, T => k (.ext id) T
  | .loop c, k, T => keepK (E.keep (loopKey c)) T (fixO fun self T => denK E c (fun e T' => match e with
    | .nrm => keepK (E.keep (loopKey c)) T' self
    | .ext i => k (.ext i) T'
    | .ret => k .ret T') T)
  | .ret, k, T => k .ret T
  | _, _, _ => none

/-! ### each of these ends in one call of what follows -/
theorem keepK_tail {R : Type} {ks : Option Nat} {T : List V} {K : List V → Option R} {r : R} (h : keepK ks T K = some r) : ∃ T', K T' = some r ∧ ∀ K' : List V → Option R, K' T' = some r → keepK ks T K' = some r := by
  unfold keepK at h ⊢
  cases ks with
  | none => exact ⟨T, h, fun K' h => h⟩
  | some m =>
    dsimp only at h ⊢
    cases hc : keepOk m T 0 T with
    | true => rw [hc] at h; exact ⟨_, h, fun K' h => h⟩
    | false => rw [hc] at h; cases h

theorem opsK_tail {R : Type} {E : Env} {ops : Array Oper} {draw : Bool} {K : List V → Option R} {T0 : List V} {r : R} : {l : List Oper} → {T : List V} → {recs : List Rec} → opsK E ops draw K T0 l T recs = some r →
    ∃ T', K T' = some r ∧ ∀ K' : List V → Option R, K' T' = some r → opsK E ops draw K' T0 l T recs = some r
  | [], T, recs, h => by
    simp only [opsK] at h ⊢
    cases hc : (!draw || (backB 0 ops.toList && tiedB (preds ops.toList []) [] (recs.map fun r => (mask r.rd, mask r.wr)) && asksB T0 recs && decide (E.N ≤ tagK))) with
    | true => rw [hc] at h; exact ⟨T, h, fun K' h => h⟩
    | false => rw [hc] at h; cases h
  | o :: l, T, recs, h => by
    have hrun : ∀ {T1 : List V} {l0 : List Nat}, ((E.step o).runK T1 l0 fun log ups => opsK E ops draw K T0 l (setAll T1 ups) (recs ++ [(log, ups)])) = some r →
        ∃ T', K T' = some r ∧ ∀ K' : List V → Option R, K' T' = some r → ((E.step o).runK T1 l0 fun log ups => opsK E ops draw K' T0 l (setAll T1 ups) (recs ++ [(log, ups)])) = some r := by
      intro T1 l0 h
      obtain ⟨ups, log, h1, h2⟩ := M.runK_some h
      obtain ⟨T', h3, h4⟩ := opsK_tail h2
      exact ⟨T', h3, fun K' hK => M.runK_of h1 (h4 K' hK)⟩
    have hskip : ∀ {T1 : List V} {g : Nat}, ((skipUps E o T1).bind fun u => opsK E ops draw K T0 l (setAll T1 u.2) (recs ++ [(g :: u.1, u.2)])) = some r →
        ∃ T', K T' = some r ∧ ∀ K' : List V → Option R, K' T' = some r → ((skipUps E o T1).bind fun u => opsK E ops draw K' T0 l (setAll T1 u.2) (recs ++ [(g :: u.1, u.2)])) = some r := by
      intro T1 g h
      obtain ⟨u, h1, h2⟩ := Option.bind_eq_some_iff.1 h
      obtain ⟨T', h3, h4⟩ := opsK_tail h2
      exact ⟨T', h3, fun K' hK => by rw [h1]; exact h4 K' hK⟩
    simp only [opsK] at h ⊢
    cases hp : pinOk E o with
    | false => rw [hp] at h; cases h
    | true =>
      rw [hp] at h
      simp only [cond_true] at h ⊢
      split at h
      · exact hrun h
      · split at h
        · cases h
        · split at h
          · rename_i j want _ _ g _ _ l0 n0 b _
            cases b with
            | true =>
              simp only [cond_true] at h ⊢
              cases want with
              | true => exact hrun h
              | false => exact hskip h
            | false =>
              simp only [cond_false] at h ⊢
              cases want with
              | true => exact hskip h
              | false => exact hrun h
          · exact hskip h
          · cases h

theorem denK_tail {R : Type} {E : Env} : {c : Code} → {k : Ex → List V → Option R} → {T : List V} → {r : R} → denK E c k T = some r →
    ∃ e T', k e T' = some r ∧ ∀ k' : Ex → List V → Option R, k' e T' = some r → denK E c k' T = some r
  | .skip, k, T, r, h => ⟨.nrm, T, h, fun k' h => h⟩
  | .label _, k, T, r, h => ⟨.nrm, T, h, fun k' h => h⟩
  | .exit id, k, T, r, h => ⟨.ext id, T, h, fun k' h => h⟩
  | .ret, k, T, r, h => ⟨.ret, T, h, fun k' h => h⟩
  | .region id ops draw, k, T, r, h => by
    simp only [denK] at h ⊢
    obtain ⟨T1, h1, h2⟩ := keepK_tail h
    obtain ⟨T', h3, h4⟩ := opsK_tail h1
    exact ⟨.nrm, T', h3, fun k' hk => h2 _ (h4 (k' .nrm) hk)⟩
  | .seq a b, k, T, r, h => by
    simp only [denK] at h ⊢
    obtain ⟨e, T1, h1, h2⟩ := denK_tail h
    cases e with
    | nrm =>
      obtain ⟨e, T', h3, h4⟩ := denK_tail h1
      exact ⟨e, T', h3, fun k' hk => h2 _ (h4 k' hk)⟩
    | ext i => exact ⟨.ext i, T1, h1, fun k' hk => h2 _ hk⟩
    | ret => exact ⟨.ret, T1, h1, fun k' hk => h2 _ hk⟩
  | .cond c a b, k, T, r, h => by
    cases c with
    | tmp t =>
      simp only [denK] at h ⊢
      split at h
      · rename_i x _
        cases x with
        | true => exact denK_tail h
        | false => exact denK_tail h
      · cases h
    | const _ => simp [denK] at h
    | func _ => simp [denK] at h
    | global _ => simp [denK] at h
  | .block id c, k, T, r, h => by
    simp only [denK] at h ⊢
    obtain ⟨e, T1, h1, h2⟩ := denK_tail h
    cases e with
    | nrm => exact ⟨.nrm, T1, h1, fun k' hk => h2 _ hk⟩
    | ext i =>
      dsimp only at h1
      cases hi : i == id with
      | true => rw [hi] at h1; exact ⟨.nrm, T1, h1, fun k' hk => h2 _ (by simp only [hi]; exact hk)⟩
      | false => rw [hi] at h1; exact ⟨.ext i, T1, h1, fun k' hk => h2 _ (by simp only [hi]; exact hk)⟩
    | ret => exact ⟨.ret, T1, h1, fun k' hk => h2 _ hk⟩
  | .loop c, k, T, r, h => by
    -- a turn of the loop, whatever follows
    have turn : ∀ (k : Ex → List V → Option R), TailO (fun (self : List V → Option R) T => denK E c (fun e T' => match e with
        | .nrm => keepK (E.keep (loopKey c)) T' self
        | .ext i => k (.ext i) T'
        | .ret => k .ret T') T) := by
      intro k f x r h
      obtain ⟨e, T1, h1, h2⟩ := denK_tail h
      cases e with
      | nrm =>
        obtain ⟨T2, h3, h4⟩ := keepK_tail h1
        exact .inr ⟨T2, h3, fun g hg => h2 _ (h4 g hg)⟩
      | ext i => exact .inl fun g => h2 _ h1
      | ret => exact .inl fun g => h2 _ h1
    simp only [denK] at h ⊢
    obtain ⟨T1, h1, h2⟩ := keepK_tail h
    obtain ⟨n, hn⟩ := (fixO_some (turn k)).1 h1
    have key : ∀ n T1, iterO (fun (self : List V → Option R) T => denK E c (fun e T' => match e with
        | .nrm => keepK (E.keep (loopKey c)) T' self
        | .ext i => k (.ext i) T'
        | .ret => k .ret T') T) n T1 = some r → ∃ e T', k e T' = some r ∧ ∀ k' : Ex → List V → Option R, k' e T' = some r → iterO (fun (self : List V → Option R) T => denK E c (fun e T' => match e with
        | .nrm => keepK (E.keep (loopKey c)) T' self
        | .ext i => k' (.ext i) T'
        | .ret => k' .ret T') T) n T1 = some r := by
      intro n
      induction n with
      | zero => intro T1 h; cases h
      | succ n ih =>
        intro T1 h
        simp only [iterO] at h ⊢
        obtain ⟨e, T2, h3, h4⟩ := denK_tail h
        cases e with
        | nrm =>
          obtain ⟨T3, h5, h6⟩ := keepK_tail h3
          obtain ⟨e, T', h7, h8⟩ := ih T3 h5
          exact ⟨e, T', h7, fun k' hk => h4 _ (h6 _ (h8 k' hk))⟩
        | ext i => exact ⟨.ext i, T2, h3, fun k' hk => h4 _ hk⟩
        | ret => exact ⟨.ret, T2, h3, fun k' hk => h4 _ hk⟩
    obtain ⟨e, T', h3, h4⟩ := key n T1 hn
    exact ⟨e, T', h3, fun k' hk => h2 _ ((fixO_some (turn k')).2 ⟨n, h4 k' hk⟩)⟩
  | .rangeFunc .., k, T, r, h => by simp [denK] at h
  | .scope _, k, T, r, h => by simp [denK] at h
  | .goto _, k, T, r, h => by simp [denK] at h
  | .refuse _, k, T, r, h => by simp [denK] at h

theorem turn_tail {R : Type} {E : Env} {c : Code} (k : Ex → List V → Option R) : TailO (fun (self : List V → Option R) T => denK E c (fun e T' => match e with
    | .nrm => keepK (E.keep (loopKey c)) T' self
    | .ext i => k (.ext i) T'
    | .ret => k .ret T') T) := by
  intro f x r h
  obtain ⟨e, T1, h1, h2⟩ := denK_tail h
  cases e with
  | nrm =>
    obtain ⟨T2, h3, h4⟩ := keepK_tail h1
    exact .inr ⟨T2, h3, fun g hg => h2 _ (h4 g hg)⟩
  | ext i => exact .inl fun g => h2 _ h1
  | ret => exact .inl fun g => h2 _ h1

end Go.Proofs.Ytdfcejijcnhcaaa.D.Am
