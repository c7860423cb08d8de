/- A part of the proof: Am37. No conditions. -/
import Derived.Test.YtdfcejijcnhcaaaCAm29
import Derived.ArgAppend
set_option linter.unusedVariables false
set_option linter.unusedSimpArgs false
namespace Go.Proofs.Ytdfcejijcnhcaaa.C.Am

/-! ## 37. append -/
structure Bas (t : Ty) where
  xs : List t.den
  n : Nat
  s : Option Nat

/-- The row that is made longer: its elements, how deep they are the slot's own, the slot. -/
def baseM (vs : List Nat) (e : TypeId) (t : Ty) (x : Operand) : M (Bas t) :=
  match x with
  | .tmp s => .get s fun v => match v with
    | .d none (n + 1) t' y => if h : t' = .slice e t then (if vs.contains s = true then .fail else .ret ⟨(h ▸ y : (Ty.slice e t).den), n, some s⟩) else .fail
    | _ => .fail
  | .const (.slice none 0 0) => .ret ⟨[], t.depth, none⟩
  | _ => .fail

structure Srcs (t : Ty) where
  ys : List t.den
  n : Option Nat
  s : Option Nat

/-- What is appended. -/
def srcM (vs : List Nat) (e : TypeId) (t : Ty) (x : Operand) : M (Srcs t) :=
  match x with
  | .tmp s => .get s fun v =>
      if t.depth = 0 then (readD s v).bind fun z => if h : z.2.1 = .slice e t then .ret ⟨(h ▸ z.2.2 : (Ty.slice e t).den), none, none⟩ else .fail
      else match v with
      | .d none 0 t' y => if h : t' = .slice e t then .ret ⟨(h ▸ y : (Ty.slice e t).den), some 0, none⟩ else .fail
      | .d none (n + 1) t' y => if h : t' = .slice e t then (if vs.contains s = true then .fail else .ret ⟨(h ▸ y : (Ty.slice e t).den), some n, some s⟩) else .fail
      | _ => .fail
  | .const (.slice none 0 0) => .ret ⟨[], none, none⟩
  | _ => .fail

def appDep (b : Nat) : Option Nat → Nat
  | none => b
  | some k => min b k

def appUps (C : Ctx) (vs : List Nat) (d : Nat) (X X2 : TypeId) (s x : Operand) : M (List (Nat × V)) :=
  match C.ty X with
  | some (.slice e t) => match C.ty X2 with
    | some (.slice _ _) => (baseM vs e t s).bind fun b => (srcM vs e t x).bind fun c =>
        if t.sz ≠ 0 ∧ C.bytes e ≠ 0 ∧ (c.s.isNone || c.s != b.s) = true then
          .chk (decide ((b.xs.length + c.ys.length) * C.bytes e ≤ 140737488355328))
            (.ret ((b.s.toList ++ c.s.toList).map (fun s => (s, V.dead)) ++ [(d, .d none (appDep b.n c.n + 1) (.slice e t) (b.xs ++ c.ys))]))
        else .fail
    | _ => .fail
  | _ => .fail

/-- The rows' labels: so's row goes to d (if it is kept), its elements' too; the elements of sx go behind. -/
def appF (d so : Nat) (sx : Option Nat) (kept : Bool) (b1 b2 m : Nat) : Nat → List Nat → Lab := fun s z =>
  if s = so then match z with
    | [y] => if y = 0 ∧ kept = true then .own d [0] else .other
    | z0 :: y :: rest => if z0 = 0 ∧ y < b1 then (if rest.length < m then .own d (0 :: y :: rest) else .stable) else .other
    | [] => .other
  else if sx = some s then match z with
    | z0 :: y :: rest => if z0 = 0 ∧ y < b2 then (if rest.length < m then .own d (0 :: (b1 + y) :: rest) else .stable) else .other
    | _ => .other
  else if s = d then .other else .own s z

theorem appF_key {d so : Nat} {sx : Option Nat} {kept : Bool} {b1 b2 m s : Nat} {z : List Nat} {s' : Nat} {z' : List Nat} (h : appF d so sx kept b1 b2 m s z = .own s' z') :
    (s = so ∧ z = [0] ∧ kept = true ∧ s' = d ∧ z' = [0]) ∨ (s = so ∧ ∃ y rest, z = 0 :: y :: rest ∧ y < b1 ∧ s' = d ∧ z' = 0 :: y :: rest) ∨
    (s ≠ so ∧ sx = some s ∧ ∃ y rest, z = 0 :: y :: rest ∧ y < b2 ∧ s' = d ∧ z' = 0 :: (b1 + y) :: rest) ∨ (s ≠ so ∧ sx ≠ some s ∧ s ≠ d ∧ s' = s ∧ z' = z) := by
  unfold appF at h
  split at h
  · rename_i hs
    split at h
    · split at h
      · rename_i hc
        obtain ⟨rfl, hk⟩ := hc
        injection h with h1 h2
        exact .inl ⟨hs, rfl, hk, h1.symm, h2.symm⟩
      · cases h
    · split at h
      · rename_i hc
        obtain ⟨rfl, hy⟩ := hc
        split at h
        · injection h with h1 h2
          exact .inr (.inl ⟨hs, _, _, rfl, hy, h1.symm, h2.symm⟩)
        · cases h
      · cases h
    · cases h
  · rename_i hs
    split at h
    · rename_i hx
      split at h
      · split at h
        · rename_i hc
          obtain ⟨rfl, hy⟩ := hc
          split at h
          · injection h with h1 h2
            exact .inr (.inr (.inl ⟨hs, hx, _, _, rfl, hy, h1.symm, h2.symm⟩))
          · cases h
        · cases h
      · cases h
    · rename_i hx
      split at h
      · cases h
      · rename_i hd
        injection h with h1 h2
        exact .inr (.inr (.inr ⟨hs, hx, hd, h1.symm, h2.symm⟩))

theorem appF_fun {d so : Nat} {sx : Option Nat} {kept : Bool} {b1 b2 m : Nat} : Fun (appF d so sx kept b1 b2 m) (fun s => s = d ∨ s = so ∨ sx = some s) := by
  refine ⟨fun s z hX => ?_, fun s z s' z' hX h => ?_, fun s z s2 z2 s' z' h1 h2 => ?_, fun s z => ?_⟩
  · have h1 := not_or.1 hX
    have h2 := not_or.1 h1.2
    simp [appF, h1.1, h2.1, h2.2]
  · rcases appF_key h with ⟨_, _, _, rfl, _⟩ | ⟨_, _, _, _, _, rfl, _⟩ | ⟨_, _, _, _, _, _, rfl, _⟩ | ⟨h1, h2, h3, rfl, _⟩
    · exact .inl rfl
    · exact .inl rfl
    · exact .inl rfl
    · exact hX
  · rcases appF_key h1 with ⟨rfl, rfl, _, rfl, rfl⟩ | ⟨rfl, y, rest, rfl, hy, rfl, rfl⟩ | ⟨hs, hx, y, rest, rfl, hy, rfl, rfl⟩ | ⟨hs, hx, hd, rfl, rfl⟩
    · rcases appF_key h2 with ⟨rfl, rfl, _, _, _⟩ | ⟨_, _, _, _, _, _, h⟩ | ⟨_, _, _, _, _, _, _, h⟩ | ⟨_, _, hd, h, _⟩
      · exact ⟨rfl, rfl⟩
      · simp at h
      · simp at h
      · exact absurd h.symm hd
    · rcases appF_key h2 with ⟨_, _, _, _, h⟩ | ⟨rfl, y', rest', rfl, _, _, h⟩ | ⟨_, _, _, _, _, _, _, h⟩ | ⟨_, _, hd, h, _⟩
      · simp at h
      · simp only [List.cons.injEq, true_and] at h
        obtain ⟨rfl, rfl⟩ := h
        exact ⟨rfl, rfl⟩
      · simp only [List.cons.injEq, true_and] at h
        omega
      · exact absurd h.symm hd
    · rcases appF_key h2 with ⟨_, _, _, _, h⟩ | ⟨_, _, _, _, _, _, h⟩ | ⟨_, hx2, y', rest', rfl, _, _, h⟩ | ⟨_, _, hd, h, _⟩
      · simp at h
      · simp only [List.cons.injEq, true_and] at h
        omega
      · simp only [List.cons.injEq, true_and] at h
        obtain ⟨h, rfl⟩ := h
        rw [hx] at hx2
        cases hx2
        exact ⟨rfl, by rw [show y = y' by omega]⟩
      · exact absurd h.symm hd
    · rcases appF_key h2 with ⟨_, _, _, h, _⟩ | ⟨_, _, _, _, _, h, _⟩ | ⟨_, _, _, _, _, _, h, _⟩ | ⟨_, _, _, h3, h4⟩
      · exact absurd h hd
      · exact absurd h hd
      · exact absurd h hd
      · exact ⟨h3, h4⟩
  · unfold appF
    repeat' split
    all_goals simp

/-- What the builtin sees of the row that is appended: how many elements, which cells; before and behind a draw. -/
structure AppSrc (P : Program) (sz : Nat) (X : TypeId) (v : Value) (n : Nat) (news : List Value) (w : World) : Prop where
  und : (∃ e, P.underlying X = some (.slice e)) ∨ P.underlying X = some .string
  count : ∀ w1 : World, (Builtin.lenOf v).run P w1 = .ok n w1
  now : (Builtin.firstCells sz n v).run P w = .ok news.toArray w
  next : (Builtin.firstCells sz n v).run P w.drew = .ok news.toArray w.drew
  total : news.length = n * sz
  single : ∀ u ∈ news, u.oneCell' = true

section
variable {P : Program}
theorem AppSrc.row {w : World} {sz : Nat} {X e : TypeId} (hX : P.underlying X = some (.slice e)) (A : Addr) (n c : Nat) {news : List Value} (h1 : news.length = n * sz) (h2 : ∀ i u, news[i]? = some u → w.cell? (A.add i) = some u) (h3 : ∀ u ∈ news, u.oneCell' = true) :
    AppSrc P sz X (.slice (some A) n c) n news w where
  und := .inl ⟨e, hX⟩
  count := fun _ => rfl
  now := run_firstCells_some w sz n A n c news h1 h2
  next := run_firstCells_some w.drew sz n A n c news h1 (by simpa using h2)
  total := h1
  single := h3

theorem AppSrc.none {w : World} {sz : Nat} {X e : TypeId} (hX : P.underlying X = some (.slice e)) (c : Nat) : AppSrc P sz X (.slice none 0 c) 0 [] w where
  und := .inl ⟨e, hX⟩
  count := fun _ => rfl
  now := run_firstCells_none w sz 0 0 c
  next := run_firstCells_none w.drew sz 0 0 c
  total := by simp
  single := by simp

/-- Where there is room. -/
theorem append_room {w : World} {X X2 ty e : TypeId} {i : TypeInfo} (hX : P.underlying X = some (.slice e)) (hi : P.info? e = some i) {g len cap n : Nat} {v : Value} {news : List Value} (h : AppSrc P i.size X2 v n news w) (hr : len + n ≤ cap)
    (h1 : ∀ k, k < news.length → (w.cell? ⟨g, len * i.size + k, none⟩).isSome = true) (h2 : ∀ k, k < news.length → w.frozen? ⟨g, len * i.size + k, none⟩ = false) :
    (Builtin.append_ #[X, X2] ty #[.slice (some ⟨g, 0, none⟩) len cap, v]).run P w = .ok (.slice (some ⟨g, 0, none⟩) (len + n) cap) (w.setCells g (len * i.size) news) := by
  have hst := run_storeCells_cells (P := P) g (len * i.size) news 0 w (by simpa using h1) (by simpa using h2) h.single
  rw [Nat.add_zero] at hst
  rcases h.und with ⟨e', hk⟩ | hk <;> simp [Builtin.append_, run_underlying hX, run_underlying hk, sizeOf, typeInfo, hi, h.count, hr, h.now, Addr.add_lit, hst]

/-- Where nothing is appended to nothing. -/
theorem append_none {w : World} {X X2 ty e : TypeId} {i : TypeInfo} (hX : P.underlying X = some (.slice e)) (hi : P.info? e = some i) {v : Value} (h : AppSrc P i.size X2 v 0 [] w) :
    (Builtin.append_ #[X, X2] ty #[.slice none 0 0, v]).run P w = .ok (.slice none 0 0) w := by
  rcases h.und with ⟨e', hk⟩ | hk <;> simp [Builtin.append_, run_underlying hX, run_underlying hk, sizeOf, typeInfo, hi, h.count, h.now, storeCells]

/-- Where there is no room: a row of its own. -/
theorem append_grow {w : World} {X X2 ty e : TypeId} {i : TypeInfo} {z : Value} (hX : P.underlying X = some (.slice e)) (hi : P.info? e = some i) (hz : i.zero = some z) {A : Option Addr} {len cap n : Nat} {olds news : List Value} {v : Value}
    (h0 : (Builtin.firstCells i.size len (.slice A len cap)).run P w.drew = .ok olds.toArray w.drew) (h : AppSrc P i.size X2 v n news w) (hg : cap < len + n) (hm : len + n ≤ maxLen) (hb : (len + n) * i.bytes ≤ 140737488355328) :
    (Builtin.append_ #[X, X2] ty #[.slice A len cap, v]).run P w = .ok (.slice (some ⟨w.heap.size, 0, none⟩) (len + n) (grownCap w (len + n) cap e))
      (w.drew.alloc (.cells ((olds ++ news).toArray ++ Builtin.zeroCells z.cells (grownCap w (len + n) cap e - (len + n))) e)) := by
  have hf := growslice_fits hg hb
  have e1 : ¬ (len + n ≤ cap) := by omega
  have e2 : ¬ (9223372036854775807 < ((len : Int) + (n : Int))) := by simp only [maxLen] at hm; omega
  have e3 : ¬ (281474976710656 < Builtin.nextslicecap (len + n) cap * i.bytes) := by omega
  rcases h.und with ⟨e', hk⟩ | hk <;>
    (simp [Builtin.append_, run_underlying hX, run_underlying hk, sizeOf, typeInfo, zeroValue, hi, hz, h.count, e1, e2, e3, Question.forced, h.next, h0, newRow, grownCap]
     congr 2
     apply Array.ext'
     simp [List.append_assoc])
end

section
variable {P : Program} {C : Ctx} {w w' w0 : World} {S S' : Nat → Prop} {L L' L0 : Nat → Lab} {s N : Nat} {vs : List Nat} {T T' : List V} {tm tm' : Array Value} {a : Act}

/-! ### cells -/
theorem win {l l' : List Value} {i j sz : Nat} (h : ∀ k, k < sz → l[i + k]? = l'[j + k]?) : (l.drop i).take sz = (l'.drop j).take sz := by
  apply List.ext_getElem?
  intro k
  rw [List.getElem?_take, List.getElem?_take]
  split
  · rw [List.getElem?_drop, List.getElem?_drop]
    exact h k (by assumption)
  · rfl

theorem win_at {l : List Value} {i k sz : Nat} (h : k < sz) : ((l.drop i).take sz)[k]? = l[i + k]? := by
  rw [List.getElem?_take, if_pos h, List.getElem?_drop]

theorem gatherCells (sz : Nat) : (n : Nat) → (f : ∀ j, j < n → List Value) → (∀ j h, (f j h).length = sz) → ∃ news : List Value, news.length = n * sz ∧ ∀ j h, (news.drop (j * sz)).take sz = f j h
  | 0, _, _ => ⟨[], by simp, fun j h => absurd h (by omega)⟩
  | n + 1, f, hl => by
    obtain ⟨news, h1, h2⟩ := gatherCells sz n (fun j h => f j (by omega)) (fun j h => hl j _)
    refine ⟨news ++ f n (by omega), by rw [List.length_append, h1, hl, Nat.add_mul, Nat.one_mul], fun j h => ?_⟩
    by_cases hj : j < n
    · rw [← h2 j hj]
      refine win fun k hk => ?_
      have : (j + 1) * sz ≤ n * sz := Nat.mul_le_mul_right _ (by omega)
      rw [Nat.add_mul, Nat.one_mul] at this
      rw [List.getElem?_append_left (by omega)]
    · obtain rfl : j = n := by omega
      rw [← h1, List.drop_left, List.take_of_length_le (by rw [hl]; exact Nat.le_refl _)]

/-- What lies in cells. -/
theorem cells_all {sz n : Nat} {news : List Value} {p : Nat → Value → Prop} (hl : news.length = n * sz) (h : ∀ j, j < n → ∀ k u, ((news.drop (j * sz)).take sz)[k]? = some u → p (j * sz + k) u) : ∀ i u, news[i]? = some u → p i u := by
  intro i u hu
  have hi : i < n * sz := by
    rw [← hl]
    exact (List.getElem?_eq_some_iff.1 hu).1
  have hsz : 0 < sz := by
    rcases Nat.eq_zero_or_pos sz with h0 | h0
    · subst h0; simp at hi
    · exact h0
  have h1 : i / sz < n := (Nat.div_lt_iff_lt_mul hsz).2 hi
  have h2 : i / sz * sz + i % sz = i := by rw [Nat.mul_comm]; exact Nat.div_add_mod i sz
  have := h (i / sz) h1 (i % sz) u (by rw [win_at (Nat.mod_lt _ hsz), h2]; exact hu)
  rwa [h2] at this

theorem setCells_spec {g : Nat} : (vs : List Value) → (o : Nat) → (w : World) → (cur : Array Value) → (e : TypeId) → w.heap[g]? = some (.cells cur e (0, 0)) → o + vs.length ≤ cur.size →
    (w.setCells g o vs).os = w.os ∧ (w.setCells g o vs).tape = w.tape ∧ (w.setCells g o vs).output = w.output ∧ (w.setCells g o vs).heap.size = w.heap.size ∧ (∀ k, k ≠ g → (w.setCells g o vs).heap[k]? = w.heap[k]?) ∧
    ∃ cur' : Array Value, (w.setCells g o vs).heap[g]? = some (.cells cur' e (0, 0)) ∧ cur'.size = cur.size ∧ ∀ i, cur'[i]? = if o ≤ i ∧ i < o + vs.length then vs[i - o]? else cur[i]?
  | [], o, w, cur, e, h, _ => ⟨rfl, rfl, rfl, rfl, fun _ _ => rfl, cur, h, rfl, fun i => by rw [if_neg (by simp)]⟩
  | v :: vs, o, w, cur, e, h, hb => by
    simp only [List.length_cons] at hb
    have hg : (w.setCell ⟨g, o, none⟩ v).heap[g]? = some (.cells (cur.setIfInBounds o v) e (0, 0)) := by
      simp [World.setCell, Array.getElem?_modify, h]
    obtain ⟨h1, h2, h3, h4, h5, cur', h6, h7, h8⟩ := setCells_spec vs (o + 1) (w.setCell ⟨g, o, none⟩ v) (cur.setIfInBounds o v) e hg (by simp; omega)
    rw [World.setCells]
    refine ⟨h1, h2, h3, by rw [h4]; simp [World.setCell], fun k hk => ?_, cur', h6, by rw [h7]; simp, fun i => ?_⟩
    · rw [h5 k hk]
      simp only [World.setCell, Array.getElem?_modify]
      rw [if_neg (Ne.symm hk)]
    · rw [h8, Array.getElem?_setIfInBounds]
      simp only [List.length_cons]
      by_cases hi : i = o
      · subst hi
        rw [if_neg (by omega), if_pos rfl, if_pos (by omega), if_pos (by omega)]
        simp
      · by_cases hi2 : o + 1 ≤ i ∧ i < o + 1 + vs.length
        · rw [if_pos hi2, if_pos (by omega), show i - o = (i - (o + 1)) + 1 by omega, List.getElem?_cons_succ]
        · rw [if_neg hi2, if_neg (by omega), if_neg (by omega)]

end
end Go.Proofs.Ytdfcejijcnhcaaa.C.Am
