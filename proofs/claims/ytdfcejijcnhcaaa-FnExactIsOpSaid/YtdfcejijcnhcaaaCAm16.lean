/- A part of the proof: Am16. No conditions. -/
import Derived.Test.YtdfcejijcnhcaaaCAm15
set_option linter.unusedVariables false
set_option linter.unusedSimpArgs false
namespace Go.Proofs.Ytdfcejijcnhcaaa.C.Am

/-! ## 16. Structs are built -/
/-- What a built value is: its data, down to which depth it is its slot's own, and whose rows went into it (slot, offset, cells). -/
structure Bd (t : Ty) where
  x : t.den
  n : Option Nat
  ms : List (Nat × Nat × Nat)

def minO : Option Nat → Option Nat → Option Nat
  | none, y => y
  | x, none => x
  | some a, some b => some (min a b)

def partM (C : Ctx) (t : Ty) (o : Nat) (x : Operand) : M (Bd t) :=
  (opnd C 0 x).bind fun v => match v with
  | .d none n t' y => if h : t' = t then
      if t.depth = 0 then .ret ⟨h ▸ y, none, []⟩
      else if n = 0 then .ret ⟨h ▸ y, some 0, []⟩
      else match x with
        | .tmp s => .ret ⟨h ▸ y, if t.depth ≤ n then none else some n, [(s, o, t.sz)]⟩
        | _ => .fail
    else .fail
  | _ => .fail

def fieldM (C : Ctx) (i o : Nat) (t : Ty) (parts : List (Nat × Operand)) : M (Bd t × List (Nat × Operand)) :=
  match parts with
  | (j, x) :: rest => if j = i then (partM C t o x).bind fun b => .ret (b, rest) else .ret (⟨t.zero, none, []⟩, parts)
  | [] => .ret (⟨t.zero, none, []⟩, [])

def buildM (C : Ctx) : (i o : Nat) → (t : Ty) → List (Nat × Operand) → M (Bd t)
  | i, o, .pair a b, parts => (fieldM C i o a parts).bind fun p => (buildM C (i + 1) (o + a.sz) b p.2).bind fun r => .ret ⟨(p.1.x, r.x), minO p.1.n r.n, p.1.ms ++ r.ms⟩
  | i, o, t, parts => (fieldM C i o t parts).bind fun p => if p.2.isEmpty then .ret p.1 else .fail

section
variable {P : Program} {C : Ctx} {w w' w0 : World} {S S' : Nat → Prop} {L L' L0 : Nat → Lab} {s N : Nat} {vs : List Nat} {T T' : List V} {tm tm' : Array Value} {a : Act}

/-- The rows of the parts are labelled as those of slot d, from cell o0 of row q on, down to depth m. -/
def Went (L L' : Nat → Lab) (d : Nat) (q : List Nat) (o0 m : Nat) (ms : List (Nat × Nat × Nat)) : Prop :=
  ∀ src o sz, (src, o, sz) ∈ ms → ∀ k y rest, y < sz → L k = .own src (y :: rest) → (rest.length < m → L' k = .own d (q ++ (o0 + o + y) :: rest)) ∧ (m ≤ rest.length → L' k = .stable)

theorem partM_own (hI : Inv w0 L0 N vs T a w L) {t : Ty} {o : Nat} {x : Operand} {b : Bd t} {log : List Nat} (h : (partM C t o x).Runs T b log) :
    ∃ cs, Form t cs (a.eval x) ∧ (∀ v ∈ cs, v.oneCell' = true) ∧ cs.length = t.sz ∧ (∀ s o' sz, (s, o', sz) ∈ b.ms → o' = o ∧ sz = t.sz ∧ ∃ n, T.getD s .dead = .d none n t b.x ∧ n ≠ 0 ∧ t.depth ≠ 0) ∧ b.ms.length ≤ 1 ∧
      ∀ (L' : Nat → Lab) (w' : World) d q o0 m, (∀ n, b.n = some n → m ≤ n) → (∀ k, L k = .stable → L' k = .stable) → (∀ k, L k ≠ .free → w'.heap[k]? = w.heap[k]?) → Went L L' d q o0 m b.ms →
        Own w' L' (SL L' none) d m t b.x q (o0 + o) cs := by
  obtain ⟨v, l1, l2, rfl, h1, h2⟩ := M.runs_bind h
  have hstab : ∀ {L' : Nat → Lab} {w' : World}, (∀ k, L k = .stable → L' k = .stable) → (∀ k, L k ≠ .free → w'.heap[k]? = w.heap[k]?) → ∀ k, SL L none k → SL L' none k ∧ w'.heap[k]? = w.heap[k]? := by
    intro L' w' hs hw k hk
    rcases hk with hk | ⟨_, _, hk, _⟩
    · exact ⟨.inl (hs k hk), hw k (by rw [hk]; simp)⟩
    · cases hk
  split at h2
  · rename_i n t' y
    split at h2
    · rename_i ht
      subst ht
      have hrep : ∃ s0, SRep L T a.tmps s0 (.d none n t' y) w (a.eval x) ∧ (∀ s, x = .tmp s → s0 = s ∧ T.getD s .dead = .d none n t' y) := by
        have hc : ∀ {x : Operand}, (opnd C 0 x).Runs T (.d none n t' y) l1 → (∀ s, x ≠ .tmp s) → ∃ s0, SRep L T a.tmps s0 (.d none n t' y) w (a.eval x) ∧ (∀ s, x = .tmp s → s0 = s ∧ T.getD s .dead = .d none n t' y) := by
          intro x h1 hx
          rcases opnd_rep hI h1 with ⟨s, rfl, hv, hs⟩ | ⟨_, hs⟩
          · exact absurd rfl (hx s)
          · exact ⟨0, hs _ _ _ _ _, fun s he => absurd he (hx s)⟩
        cases x with
        | tmp s =>
          obtain ⟨_, _, hv, _⟩ := h1
          refine ⟨s, ?_, fun s' he => by cases he; exact ⟨rfl, hv.symm⟩⟩
          rw [hv]
          exact hI.slots s
        | const c => exact hc h1 (by simp)
        | func f => exact hc h1 (by simp)
        | global g => exact hc h1 (by simp)
      obtain ⟨s0, ⟨_, cs, hf, ho⟩, hx⟩ := hrep
      refine ⟨cs, hf, Own.one ho, Own.len ho, ?_⟩
      split at h2
      · rename_i hd
        obtain ⟨rfl, _⟩ := h2
        refine ⟨by simp, by simp, fun L' w' d q o0 m _ hs hw _ => ?_⟩
        exact Own.flat hd ho
      · rename_i hd
        split at h2
        · rename_i hn
          subst hn
          obtain ⟨rfl, _⟩ := h2
          refine ⟨by simp, by simp, fun L' w' d q o0 m hm hs hw _ => ?_⟩
          obtain rfl : m = 0 := by have := hm 0 rfl; omega
          exact Own.of_rd (Rd.move (hstab hs hw) (Own.rd0 ho))
        · rename_i hn
          split at h2
          · rename_i s
            obtain ⟨rfl, _⟩ := h2
            obtain ⟨rfl, hT⟩ := hx s rfl
            refine ⟨fun s o' sz hm => ?_, by simp, fun L' w' d q o0 m hm hs hw hwent => ?_⟩
            · simp only [List.mem_singleton, Prod.mk.injEq] at hm
              obtain ⟨rfl, rfl, rfl⟩ := hm
              exact ⟨rfl, rfl, n, hT, hn, hd⟩
            · have hmn : m ≤ n ∨ t'.depth ≤ n := by
                by_cases hdn : t'.depth ≤ n
                · exact .inr hdn
                · exact .inl (hm n (by simp [hdn]))
              obtain ⟨k9, c9, ho9⟩ := Own.atLeast hmn ho
              refine Own.moveLow c9 (hstab hs hw) (fun k i rest hi hk => ?_) ho9
              have hk' : L k = .own s0 (i :: rest) := by simpa using hk
              have := hwent s0 o t'.sz (by simp) k i rest hi hk'
              exact ⟨hw k (by rw [hk]; simp), this.1, fun h => .inl (this.2 h)⟩
          · exact h2.elim
    · exact h2.elim
  · exact h2.elim


/-- Filling in a part: what Instr.fill does. -/
theorem fill_step {place : Nat → Option (Nat × Nat)} {cells : Array Value} {i off size : Nat} {v : Value} {rest : List (Nat × Value)} (hp : place i = some (off, size)) (hs : v.cells.size = size) (hb : off + size ≤ cells.size) :
    ∃ cells', Instr.fill place cells ((i, v) :: rest) = Instr.fill place cells' rest ∧ cells'.size = cells.size ∧ (cells'.toList.drop off).take size = v.cells.toList ∧
      ∀ j, (j < off ∨ off + size ≤ j) → cells'[j]? = cells[j]? := by
  let cells' : Array Value := v.cells.zipIdx.foldl (fun cs (c, j) => cs.setIfInBounds (off + j) c) cells
  have key : ∀ (l : List (Value × Nat)) (cs : Array Value), (l.foldl (fun cs (c, j) => cs.setIfInBounds (off + j) c) cs).size = cs.size := by
    intro l
    induction l with
    | nil => intro cs; rfl
    | cons c l ih => intro cs; simp only [List.foldl_cons]; rw [ih]; simp
  have out : ∀ (l : List (Value × Nat)) (cs : Array Value) (j : Nat), (∀ c ∈ l, off + c.2 ≠ j) → (l.foldl (fun cs (c, j) => cs.setIfInBounds (off + j) c) cs)[j]? = cs[j]? := by
    intro l
    induction l with
    | nil => intro cs j _; rfl
    | cons c l ih =>
      intro cs j h
      simp only [List.foldl_cons]
      rw [ih _ _ (fun c' hc => h c' (by simp [hc])), Array.getElem?_setIfInBounds, if_neg (h c (by simp))]
  have inn : ∀ (l : List Value) (b : Nat) (cs : Array Value), off + b + l.length ≤ cs.size → ∀ i, i < l.length → ((l.zipIdx b).foldl (fun cs (c, j) => cs.setIfInBounds (off + j) c) cs)[off + b + i]? = l[i]? := by
    intro l
    induction l with
    | nil => intro b cs _ i hi; simp at hi
    | cons c l ih =>
      intro b cs hb i hi
      simp only [List.zipIdx_cons, List.foldl_cons]
      cases i with
      | zero =>
        rw [out]
        · simp only [List.length_cons] at hb
          simp [Array.getElem?_setIfInBounds]
          omega
        · intro c' hc
          have := List.le_snd_of_mem_zipIdx hc
          omega
      | succ i =>
        simp only [List.length_cons] at hb hi
        have := ih (b + 1) (cs.setIfInBounds (off + b) c) (by simp; omega) i (by omega)
        rw [show off + (b + 1) + i = off + b + (i + 1) by omega] at this
        rw [this]
        simp
  refine ⟨cells', ?_, ?_, ?_, ?_⟩
  · simp only [Instr.fill, hp]
    rw [if_neg (by simp only [Bool.or_eq_true, decide_eq_true_eq, ne_eq]; omega)]
  · show (v.cells.zipIdx.foldl _ cells).size = _
    rw [← Array.foldl_toList]
    exact key _ _
  · apply List.ext_getElem?
    intro j
    rw [List.getElem?_take]
    split
    · rename_i hj
      rw [List.getElem?_drop]
      have := inn v.cells.toList 0 cells (by simp; omega) j (by simp; omega)
      simp only [Nat.add_zero] at this
      rw [← this]
      show cells'.toList[off + j]? = _
      rw [Array.getElem?_toList]
      show (v.cells.zipIdx.foldl _ cells)[off + j]? = _
      rw [← Array.foldl_toList]
      congr 2
      simp
    · rw [List.getElem?_eq_none (by simp; omega)]
  · intro j hj
    show (v.cells.zipIdx.foldl _ cells)[j]? = _
    rw [← Array.foldl_toList]
    refine out _ _ _ (fun c hc => ?_)
    have h2 : c.2 < v.cells.size := by
      rw [Array.toList_zipIdx] at hc
      have := List.snd_lt_of_mem_zipIdx hc
      simpa using this
    omega

end
end Go.Proofs.Ytdfcejijcnhcaaa.C.Am
