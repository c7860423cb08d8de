/- A part of the proof: Am1. No conditions. -/
import Derived.Laws.OwnMore
import Derived.Calls
set_option linter.unusedVariables false
set_option linter.unusedSimpArgs false
namespace Go.Proofs.Ytdfcejijcnhcaaa.C.Am

/-! ## 1. Type codes, their data, and how data lies in cells -/
inductive Ty where
  | int (k : IntKind)
  | bool
  | str
  | raw (z : Nat)
  | unit
  | pair (a b : Ty)
  | agg (t : Ty)
  | slice (e : TypeId) (t : Ty)
  deriving DecidableEq, Inhabited

@[reducible] def Ty.den : Ty → Type
  | .int _ => Int
  | .bool => Bool
  | .str => ByteArray
  | .raw _ => Value
  | .unit => Unit
  | .pair a b => a.den × b.den
  | .agg t => t.den
  | .slice _ t => List t.den

def Ty.sz : Ty → Nat
  | .unit => 0
  | .pair a b => a.sz + b.sz
  | .agg t => t.sz
  | _ => 1

def rawZero : Nat → Value
  | 0 => .pointer none
  | 1 => .nilFunc
  | _ => .nilIface

def Ty.zero : (t : Ty) → t.den
  | .int _ => (0 : Int)
  | .bool => false
  | .str => ByteArray.empty
  | .raw z => rawZero z
  | .unit => ()
  | .pair a b => (a.zero, b.zero)
  | .agg t => t.zero
  | .slice _ t => []

/-- How many levels of slices a type has at most. -/
def Ty.depth : Ty → Nat
  | .pair a b => max a.depth b.depth
  | .agg t => t.depth
  | .slice _ t => t.depth + 1
  | _ => 0

def Value.plain1 : Value → Bool
  | .pointer none | .nilFunc | .nilIface | .func .. => true
  | _ => false

theorem plain1_one {v : Value} (h : Value.plain1 v = true) : v.oneCell' = true := by
  cases v <;> simp_all [Value.plain1, Value.oneCell']

/-- Data that is read: all rows lie in blocks of S. -/
def Rd (w : World) (S : Nat → Prop) : (t : Ty) → t.den → List Value → Prop
  | .int k, x, cs => cs = [.int k x]
  | .bool, x, cs => cs = [.bool x]
  | .str, x, cs => cs = [.string x]
  | .raw _, x, cs => cs = [x] ∧ Value.plain1 x = true
  | .unit, _, cs => cs = []
  | .pair a b, x, cs => ∃ c0 c1, cs = c0 ++ c1 ∧ Rd w S a x.1 c0 ∧ Rd w S b x.2 c1
  | .agg t, x, cs => Rd w S t x cs
  | .slice _ t, xs, cs => ∃ A c, cs = [.slice A (xs : List t.den).length c] ∧ xs.length ≤ c ∧ (A = none → xs = [] ∧ c = 0) ∧
      (xs ≠ [] → ∃ g o, A = some ⟨g, o, none⟩ ∧ S g ∧ ∀ j (h : j < xs.length), ∃ es, Rd w S t (xs[j]) es ∧ ∀ i v, es[i]? = some v → w.cell? ⟨g, o + (j * t.sz + i), none⟩ = some v)

inductive Lab where
  | stable
  | free
  | other
  | own (s : Nat) (q : List Nat)

/-- Data of slot s's own down to depth n, read (from blocks of S) below. Its rows bear the labels of their places. -/
def Own (w : World) (L : Nat → Lab) (S : Nat → Prop) (s : Nat) : Nat → (t : Ty) → t.den → List Nat → Nat → List Value → Prop
  | _, .int k, x, _, _, cs => cs = [.int k x]
  | _, .bool, x, _, _, cs => cs = [.bool x]
  | _, .str, x, _, _, cs => cs = [.string x]
  | _, .raw _, x, _, _, cs => cs = [x] ∧ Value.plain1 x = true
  | _, .unit, _, _, _, cs => cs = []
  | n, .pair a b, x, q, o, cs => ∃ c0 c1, cs = c0 ++ c1 ∧ Own w L S s n a x.1 q o c0 ∧ Own w L S s n b x.2 q (o + a.sz) c1
  | n, .agg t, x, q, o, cs => Own w L S s n t x q o cs
  | 0, .slice e t, xs, _, _, cs => Rd w S (.slice e t) xs cs
  | n + 1, .slice e t, xs, q, o, cs => (cs = [.slice none 0 0] ∧ xs = []) ∨
      ∃ g cap cur, cs = [.slice (some ⟨g, 0, none⟩) (xs : List t.den).length cap] ∧ L g = .own s (q ++ [o]) ∧ w.heap[g]? = some (.cells cur e (0, 0)) ∧
        xs.length ≤ cap ∧ cap ≤ maxLen ∧ cur.size = cap * t.sz ∧
        ∀ j (h : j < xs.length), Own w L S s n t (xs[j]) (q ++ [o]) (j * t.sz) ((cur.toList.drop (j * t.sz)).take t.sz)

section
variable {w w' : World} {S S' : Nat → Prop} {L L' : Nat → Lab} {s s' : Nat}

theorem Rd.len : {t : Ty} → {x : t.den} → {cs : List Value} → Rd w S t x cs → cs.length = t.sz
  | .int _, _, _, h => by simp only [Rd] at h; subst h; rfl
  | .bool, _, _, h => by simp only [Rd] at h; subst h; rfl
  | .str, _, _, h => by simp only [Rd] at h; subst h; rfl
  | .raw _, _, _, h => by simp only [Rd] at h; rw [h.1]; rfl
  | .unit, _, _, h => by simp only [Rd] at h; subst h; rfl
  | .pair a b, _, _, h => by
    simp only [Rd] at h
    obtain ⟨c0, c1, rfl, h0, h1⟩ := h
    simp [Ty.sz, Rd.len h0, Rd.len h1]
  | .agg t, _, _, h => by simp only [Rd] at h; exact Rd.len (t := t) h
  | .slice _ _, _, _, h => by
    simp only [Rd] at h
    obtain ⟨A, c, rfl, _⟩ := h
    rfl

theorem Own.len : {n : Nat} → {t : Ty} → {x : t.den} → {q : List Nat} → {o : Nat} → {cs : List Value} → Own w L S s n t x q o cs → cs.length = t.sz
  | _, .int _, _, _, _, _, h => by simp only [Own] at h; subst h; rfl
  | _, .bool, _, _, _, _, h => by simp only [Own] at h; subst h; rfl
  | _, .str, _, _, _, _, h => by simp only [Own] at h; subst h; rfl
  | _, .raw _, _, _, _, _, h => by simp only [Own] at h; rw [h.1]; rfl
  | _, .unit, _, _, _, _, h => by simp only [Own] at h; subst h; rfl
  | _, .pair a b, _, _, _, _, h => by
    simp only [Own] at h
    obtain ⟨c0, c1, rfl, h0, h1⟩ := h
    simp [Ty.sz, Own.len h0, Own.len h1]
  | _, .agg t, _, _, _, _, h => by simp only [Own] at h; exact Own.len (t := t) h
  | 0, .slice _ _, _, _, _, _, h => by simp only [Own] at h; exact Rd.len h
  | n + 1, .slice _ _, _, _, _, _, h => by
    simp only [Own] at h
    rcases h with ⟨rfl, _⟩ | ⟨g, cap, cur, rfl, _⟩ <;> rfl

def one1 (v : Value) : Bool := v.oneCell'

theorem Rd.one : {t : Ty} → {x : t.den} → {cs : List Value} → Rd w S t x cs → ∀ v ∈ cs, v.oneCell' = true
  | .int _, _, _, h => by simp only [Rd] at h; subst h; simp [Value.oneCell']
  | .bool, _, _, h => by simp only [Rd] at h; subst h; simp [Value.oneCell']
  | .str, _, _, h => by simp only [Rd] at h; subst h; simp [Value.oneCell']
  | .raw _, _, _, h => by
    simp only [Rd] at h
    obtain ⟨rfl, h⟩ := h
    intro v hv
    rw [List.mem_singleton.1 hv]
    exact plain1_one h
  | .unit, _, _, h => by simp only [Rd] at h; subst h; simp
  | .pair a b, _, _, h => by
    simp only [Rd] at h
    obtain ⟨c0, c1, rfl, h0, h1⟩ := h
    intro v hv
    rcases List.mem_append.1 hv with hv | hv
    · exact Rd.one h0 v hv
    · exact Rd.one h1 v hv
  | .agg t, _, _, h => by simp only [Rd] at h; exact Rd.one (t := t) h
  | .slice _ _, _, _, h => by
    simp only [Rd] at h
    obtain ⟨A, c, rfl, _⟩ := h
    simp [Value.oneCell']

theorem Own.one : {n : Nat} → {t : Ty} → {x : t.den} → {q : List Nat} → {o : Nat} → {cs : List Value} → Own w L S s n t x q o cs → ∀ v ∈ cs, v.oneCell' = true
  | _, .int _, _, _, _, _, h => by simp only [Own] at h; subst h; simp [Value.oneCell']
  | _, .bool, _, _, _, _, h => by simp only [Own] at h; subst h; simp [Value.oneCell']
  | _, .str, _, _, _, _, h => by simp only [Own] at h; subst h; simp [Value.oneCell']
  | _, .raw _, _, _, _, _, h => by
    simp only [Own] at h
    exact Rd.one (w := w) (S := S) (t := .raw 0) h
  | _, .unit, _, _, _, _, h => by simp only [Own] at h; subst h; simp
  | _, .pair a b, _, _, _, _, h => by
    simp only [Own] at h
    obtain ⟨c0, c1, rfl, h0, h1⟩ := h
    intro v hv
    rcases List.mem_append.1 hv with hv | hv
    · exact Own.one h0 v hv
    · exact Own.one h1 v hv
  | _, .agg t, _, _, _, _, h => by simp only [Own] at h; exact Own.one (t := t) h
  | 0, .slice _ _, _, _, _, _, h => by simp only [Own] at h; exact Rd.one h
  | n + 1, .slice _ _, _, _, _, _, h => by
    simp only [Own] at h
    rcases h with ⟨rfl, _⟩ | ⟨g, cap, cur, rfl, _⟩ <;> simp [Value.oneCell']

/-- What is read stays, wherever its blocks stay. -/
theorem Rd.move : {t : Ty} → {x : t.den} → {cs : List Value} → (∀ k, S k → S' k ∧ w'.heap[k]? = w.heap[k]?) → Rd w S t x cs → Rd w' S' t x cs
  | .int _, _, _, _, h => h
  | .bool, _, _, _, h => h
  | .str, _, _, _, h => h
  | .raw _, _, _, _, h => h
  | .unit, _, _, _, h => h
  | .pair a b, _, _, H, h => by
    simp only [Rd] at h ⊢
    obtain ⟨c0, c1, rfl, h0, h1⟩ := h
    exact ⟨c0, c1, rfl, Rd.move H h0, Rd.move H h1⟩
  | .agg t, _, _, H, h => by simp only [Rd] at h ⊢; exact Rd.move (t := t) H h
  | .slice _ _, _, _, H, h => by
    simp only [Rd] at h ⊢
    obtain ⟨A, c, rfl, h1, h2, h3⟩ := h
    refine ⟨A, c, rfl, h1, h2, fun hx => ?_⟩
    obtain ⟨g, o, hA, hS, h⟩ := h3 hx
    refine ⟨g, o, hA, (H g hS).1, fun j hj => ?_⟩
    obtain ⟨es, he, hc⟩ := h j hj
    refine ⟨es, Rd.move H he, fun i v hv => ?_⟩
    rw [World.cell?_of_block (w := w) ((H g hS).2)]
    exact hc i v hv

/-- The great mover: rows of a place may be labelled anew, as those of another place. -/
theorem Own.move : {n : Nat} → {t : Ty} → {x : t.den} → {q q2 : List Nat} → {o o2 : Nat} → {cs : List Value} →
    (∀ k, S k → S' k ∧ w'.heap[k]? = w.heap[k]?) →
    (∀ k d rest, d < t.sz → L k = .own s (q ++ (o + d) :: rest) → L' k = .own s' (q2 ++ (o2 + d) :: rest) ∧ w'.heap[k]? = w.heap[k]?) →
    Own w L S s n t x q o cs → Own w' L' S' s' n t x q2 o2 cs
  | _, .int _, _, _, _, _, _, _, _, _, h => by simpa only [Own] using h
  | _, .bool, _, _, _, _, _, _, _, _, h => by simpa only [Own] using h
  | _, .str, _, _, _, _, _, _, _, _, h => by simpa only [Own] using h
  | _, .raw _, _, _, _, _, _, _, _, _, h => by simpa only [Own] using h
  | _, .unit, _, _, _, _, _, _, _, _, h => by simpa only [Own] using h
  | _, .pair a b, _, q, q2, o, o2, _, H, H2, h => by
    simp only [Own] at h ⊢
    obtain ⟨c0, c1, rfl, h0, h1⟩ := h
    refine ⟨c0, c1, rfl, Own.move H (fun k d rest hd => H2 k d rest (by simp only [Ty.sz]; omega)) h0, Own.move H (fun k d rest hd hk => ?_) h1⟩
    have := H2 k (a.sz + d) rest (by simp only [Ty.sz]; omega) (by rw [hk, Nat.add_assoc])
    rwa [← Nat.add_assoc] at this
  | _, .agg t, _, _, _, _, _, _, H, H2, h => by simp only [Own] at h ⊢; exact Own.move (t := t) H H2 h
  | 0, .slice _ _, _, _, _, _, _, _, H, _, h => by simp only [Own] at h ⊢; exact Rd.move H h
  | n + 1, .slice e t, xs, q, q2, o, o2, _, H, H2, h => by
    simp only [Own] at h ⊢
    rcases h with h | ⟨g, cap, cur, rfl, hL, hg, h1, h2, h3, h4⟩
    · exact .inl h
    · have hh := H2 g 0 [] (by simp [Ty.sz]) (by simpa using hL)
      refine .inr ⟨g, cap, cur, rfl, by simpa using hh.1, by rw [hh.2]; exact hg, h1, h2, h3, fun j hj => ?_⟩
      refine Own.move H (fun k d rest hd hk => ?_) (h4 j hj)
      have := H2 k 0 ((j * t.sz + d) :: rest) (by simp [Ty.sz]) (by rw [hk]; simp)
      simpa using this

theorem Own.rd0 : {t : Ty} → {x : t.den} → {q : List Nat} → {o : Nat} → {cs : List Value} → Own w L S s 0 t x q o cs → Rd w S t x cs
  | .int _, _, _, _, _, h => by simpa only [Own, Rd] using h
  | .bool, _, _, _, _, h => by simpa only [Own, Rd] using h
  | .str, _, _, _, _, h => by simpa only [Own, Rd] using h
  | .raw _, _, _, _, _, h => by simpa only [Own, Rd] using h
  | .unit, _, _, _, _, h => by simpa only [Own, Rd] using h
  | .pair a b, _, _, _, _, h => by
    simp only [Own, Rd] at h ⊢
    obtain ⟨c0, c1, rfl, h0, h1⟩ := h
    exact ⟨c0, c1, rfl, Own.rd0 h0, Own.rd0 h1⟩
  | .agg t, _, _, _, _, h => by simp only [Own, Rd] at h ⊢; exact Own.rd0 (t := t) h
  | .slice _ _, _, _, _, _, h => by simpa only [Own] using h

theorem Own.of_rd : {t : Ty} → {x : t.den} → {q : List Nat} → {o : Nat} → {cs : List Value} → Rd w S t x cs → Own w L S s 0 t x q o cs
  | .int _, _, _, _, _, h => by simpa only [Own, Rd] using h
  | .bool, _, _, _, _, h => by simpa only [Own, Rd] using h
  | .str, _, _, _, _, h => by simpa only [Own, Rd] using h
  | .raw _, _, _, _, _, h => by simpa only [Own, Rd] using h
  | .unit, _, _, _, _, h => by simpa only [Own, Rd] using h
  | .pair a b, _, _, _, _, h => by
    simp only [Own, Rd] at h ⊢
    obtain ⟨c0, c1, rfl, h0, h1⟩ := h
    exact ⟨c0, c1, rfl, Own.of_rd h0, Own.of_rd h1⟩
  | .agg t, _, _, _, _, h => by simp only [Own, Rd] at h ⊢; exact Own.of_rd (t := t) h
  | .slice _ _, _, _, _, _, h => by simpa only [Own] using h

/-- Without slices there is nothing to own: any depth, place and slot. -/
theorem Own.flat : {t : Ty} → {x : t.den} → {n n' : Nat} → {q q' : List Nat} → {o o' : Nat} → {cs : List Value} → t.depth = 0 → Own w L S s n t x q o cs → Own w' L' S' s' n' t x q' o' cs
  | .int _, _, _, _, _, _, _, _, _, _, h => by simpa only [Own] using h
  | .bool, _, _, _, _, _, _, _, _, _, h => by simpa only [Own] using h
  | .str, _, _, _, _, _, _, _, _, _, h => by simpa only [Own] using h
  | .raw _, _, _, _, _, _, _, _, _, _, h => by simpa only [Own] using h
  | .unit, _, _, _, _, _, _, _, _, _, h => by simpa only [Own] using h
  | .pair a b, _, _, _, _, _, _, _, _, hd, h => by
    simp only [Own, Ty.depth] at h hd ⊢
    obtain ⟨c0, c1, rfl, h0, h1⟩ := h
    exact ⟨c0, c1, rfl, Own.flat (by omega) h0, Own.flat (by omega) h1⟩
  | .agg t, _, _, _, _, _, _, _, _, hd, h => by simp only [Own, Ty.depth] at h hd ⊢; exact Own.flat (t := t) hd h
  | .slice _ _, _, _, _, _, _, _, _, _, hd, h => by simp [Ty.depth] at hd

/-- Beyond a type's depth there is nothing more to own. -/
theorem Own.cap : {n m : Nat} → {t : Ty} → {x : t.den} → {q : List Nat} → {o : Nat} → {cs : List Value} → t.depth ≤ n → t.depth ≤ m → Own w L S s n t x q o cs → Own w L S s m t x q o cs
  | _, _, .int _, _, _, _, _, _, _, h => by simpa only [Own] using h
  | _, _, .bool, _, _, _, _, _, _, h => by simpa only [Own] using h
  | _, _, .str, _, _, _, _, _, _, h => by simpa only [Own] using h
  | _, _, .raw _, _, _, _, _, _, _, h => by simpa only [Own] using h
  | _, _, .unit, _, _, _, _, _, _, h => by simpa only [Own] using h
  | _, _, .pair a b, _, _, _, _, hn, hm, h => by
    simp only [Own, Ty.depth] at h hn hm ⊢
    obtain ⟨c0, c1, h2, h0, h1⟩ := h
    exact ⟨c0, c1, h2, Own.cap (by omega) (by omega) h0, Own.cap (by omega) (by omega) h1⟩
  | _, _, .agg t, _, _, _, _, hn, hm, h => by simp only [Own, Ty.depth] at h hn hm ⊢; exact Own.cap (t := t) hn hm h
  | 0, _, .slice _ _, _, _, _, _, hn, _, _ => by simp [Ty.depth] at hn
  | _ + 1, 0, .slice _ _, _, _, _, _, _, hm, _ => by simp [Ty.depth] at hm
  | n + 1, m + 1, .slice _ t, xs, _, _, _, hn, hm, h => by
    simp only [Own, Ty.depth] at h hn hm ⊢
    rcases h with h | ⟨g, cap, cur, h1, h2, h3, h4, h5, h6, h7⟩
    · exact .inl h
    · exact .inr ⟨g, cap, cur, h1, h2, h3, h4, h5, h6, fun j hj => Own.cap (by omega) (by omega) (h7 j hj)⟩

/-- Down to depth m at least, or as deep as the type. -/
theorem Own.atLeast {n m : Nat} {t : Ty} {x : t.den} {q : List Nat} {o : Nat} {cs : List Value} (h : m ≤ n ∨ t.depth ≤ n) (ho : Own w L S s n t x q o cs) : ∃ k, m ≤ k ∧ Own w L S s k t x q o cs := by
  by_cases hm : m ≤ n
  · exact ⟨n, hm, ho⟩
  · have hd := h.resolve_left hm
    exact ⟨m, Nat.le_refl _, Own.cap hd (by omega) ho⟩

/-- The cells of a type's zero value. -/
def Ty.zcells : Ty → List Value
  | .int k => [.int k 0]
  | .bool => [.bool false]
  | .str => [.string ByteArray.empty]
  | .raw z => [rawZero z]
  | .unit => []
  | .pair a b => a.zcells ++ b.zcells
  | .agg t => t.zcells
  | .slice _ _ => [.slice none 0 0]

theorem Own.zero : {n : Nat} → {t : Ty} → {q : List Nat} → {o : Nat} → Own w L S s n t t.zero q o t.zcells
  | _, .int _, _, _ => by simp [Own, Ty.zero, Ty.zcells]
  | _, .bool, _, _ => by simp [Own, Ty.zero, Ty.zcells]
  | _, .str, _, _ => by simp [Own, Ty.zero, Ty.zcells]
  | _, .raw 0, _, _ => by simp [Own, Ty.zero, Ty.zcells, rawZero, Value.plain1]
  | _, .raw 1, _, _ => by simp [Own, Ty.zero, Ty.zcells, rawZero, Value.plain1]
  | _, .raw (_ + 2), _, _ => by simp [Own, Ty.zero, Ty.zcells, rawZero, Value.plain1]
  | _, .unit, _, _ => by simp [Own, Ty.zcells]
  | _, .pair a b, _, _ => by simp only [Own]; exact ⟨_, _, rfl, Own.zero, Own.zero⟩
  | _, .agg t, _, _ => by simp only [Own]; exact Own.zero (t := t)
  | 0, .slice _ _, _, _ => by
    simp only [Own, Rd, Ty.zcells, Ty.zero]
    exact ⟨none, 0, rfl, Nat.le_refl _, fun _ => by simp, fun h => absurd rfl h⟩
  | n + 1, .slice _ _, _, _ => by simp only [Own]; exact .inl ⟨rfl, rfl⟩

theorem Ty.zcells_len : (t : Ty) → t.zcells.length = t.sz
  | .int _ | .bool | .str | .raw _ | .unit | .slice _ _ => rfl
  | .pair a b => by simp [Ty.zcells, Ty.sz, zcells_len a, zcells_len b]
  | .agg t => zcells_len t

/-- Moved, and given up below depth m, at once. -/
theorem Own.moveLow : {n m : Nat} → {t : Ty} → {x : t.den} → {q q2 : List Nat} → {o o2 : Nat} → {cs : List Value} → m ≤ n →
    (∀ k, S k → S' k ∧ w'.heap[k]? = w.heap[k]?) →
    (∀ k d rest, d < t.sz → L k = .own s (q ++ (o + d) :: rest) → w'.heap[k]? = w.heap[k]? ∧ (rest.length < m → L' k = .own s' (q2 ++ (o2 + d) :: rest)) ∧ (m ≤ rest.length → S' k)) →
    Own w L S s n t x q o cs → Own w' L' S' s' m t x q2 o2 cs
  | _, _, .int _, _, _, _, _, _, _, _, _, _, h => by simpa only [Own] using h
  | _, _, .bool, _, _, _, _, _, _, _, _, _, h => by simpa only [Own] using h
  | _, _, .str, _, _, _, _, _, _, _, _, _, h => by simpa only [Own] using h
  | _, _, .raw _, _, _, _, _, _, _, _, _, _, h => by simpa only [Own] using h
  | _, _, .unit, _, _, _, _, _, _, _, _, _, h => by simpa only [Own] using h
  | _, _, .pair a b, _, q, q2, o, o2, _, hm, H, H2, h => by
    simp only [Own] at h ⊢
    obtain ⟨c0, c1, rfl, h0, h1⟩ := h
    refine ⟨c0, c1, rfl, Own.moveLow hm H (fun k d rest hd => H2 k d rest (by simp only [Ty.sz]; omega)) h0, Own.moveLow hm H (fun k d rest hd hk => ?_) h1⟩
    have := H2 k (a.sz + d) rest (by simp only [Ty.sz]; omega) (by rw [hk, Nat.add_assoc])
    rwa [← Nat.add_assoc] at this
  | _, _, .agg t, _, _, _, _, _, _, hm, H, H2, h => by simp only [Own] at h ⊢; exact Own.moveLow (t := t) hm H H2 h
  | 0, 0, .slice _ _, _, _, _, _, _, _, _, H, _, h => by simp only [Own] at h ⊢; exact Rd.move H h
  | n + 1, m + 1, .slice e t, xs, q, q2, o, o2, _, hm, H, H2, h => by
    simp only [Own] at h ⊢
    rcases h with h | ⟨g, cap, cur, rfl, hL, hg, h1, h2, h3, h4⟩
    · exact .inl h
    · have hh := H2 g 0 [] (by simp [Ty.sz]) (by simpa using hL)
      refine .inr ⟨g, cap, cur, rfl, by simpa using hh.2.1 (by simp), by rw [hh.1]; exact hg, h1, h2, h3, fun j hj => ?_⟩
      refine Own.moveLow (by omega) H (fun k d rest hd hk => ?_) (h4 j hj)
      have := H2 k 0 ((j * t.sz + d) :: rest) (by simp [Ty.sz]) (by rw [hk]; simp)
      refine ⟨this.1, fun hr => ?_, fun hr => this.2.2 (by simp; omega)⟩
      have h5 := this.2.1 (by simp; omega)
      simpa using h5
  | n + 1, 0, .slice e t, xs, q, q2, o, o2, _, hm, H, H2, h => by
    simp only [Own] at h ⊢
    simp only [Rd]
    rcases h with ⟨rfl, rfl⟩ | ⟨g, cap, cur, rfl, hL, hg, h1, h2, h3, h4⟩
    · exact ⟨none, 0, rfl, Nat.le_refl _, fun _ => ⟨rfl, rfl⟩, fun h => absurd rfl h⟩
    · have hh := H2 g 0 [] (by simp [Ty.sz]) (by simpa using hL)
      refine ⟨_, cap, rfl, h1, (by simp), fun _ => ⟨g, 0, rfl, hh.2.2 (by simp), fun j hj => ?_⟩⟩
      have h5 : Own w' L' S' s' 0 t (xs[j]) (q2 ++ [o2]) (j * t.sz) ((cur.toList.drop (j * t.sz)).take t.sz) := by
        refine Own.moveLow (Nat.zero_le _) H (fun k d rest hd hk => ?_) (h4 j hj)
        have := H2 k 0 ((j * t.sz + d) :: rest) (by simp [Ty.sz]) (by rw [hk]; simp)
        exact ⟨this.1, fun hr => absurd hr (by omega), fun hr => this.2.2 (by simp)⟩
      refine ⟨_, Own.rd0 h5, fun i v hv => ?_⟩
      rw [List.getElem?_take] at hv
      split at hv
      · rw [List.getElem?_drop] at hv
        simp only [World.cell?, hh.1, hg, Option.isSome_none, Bool.false_eq_true, if_false, Nat.zero_add]
        simpa using hv
      · cases hv

/-- The part below depth m is given up to be read. -/
theorem Own.freeze {n m : Nat} {t : Ty} {x : t.den} {q : List Nat} {o : Nat} {cs : List Value} (hm : m ≤ n)
    (H : ∀ k, S k → S' k ∧ w'.heap[k]? = w.heap[k]?)
    (H2 : ∀ k d rest, d < t.sz → L k = .own s (q ++ (o + d) :: rest) → w'.heap[k]? = w.heap[k]? ∧ (rest.length < m → L' k = .own s (q ++ (o + d) :: rest)) ∧ (m ≤ rest.length → S' k))
    (h : Own w L S s n t x q o cs) : Own w' L' S' s m t x q o cs := Own.moveLow hm H H2 h
end
end Go.Proofs.Ytdfcejijcnhcaaa.C.Am
