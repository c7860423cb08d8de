/- A part of the proof: Am2. No conditions. -/
import Derived.Test.YtdfcejijcnhcaaaCAm1
set_option linter.unusedVariables false
set_option linter.unusedSimpArgs false
namespace Go.Proofs.Ytdfcejijcnhcaaa.C.Am

/-! ## 2. Places: paths of fields and elements -/
def getI {α : Type} (xs : List α) (i : Int) : Option α := if 0 ≤ i then xs[i.toNat]? else none

inductive St where
  | fld (i off : Nat)
  | idx (sz : Nat) (i : Int)

/-- The row (by its label's path) and the cell in it to which a path leads. -/
def node : List Nat → Nat → List St → List Nat × Nat
  | q, o, [] => (q, o)
  | q, o, .fld _ off :: p => node q (o + off) p
  | q, o, .idx sz i :: p => node (q ++ [o]) (i.toNat * sz) p

inductive V where
  | dead
  | d (l : Option Nat) (n : Nat) (t : Ty) (x : t.den)
  | tup (l : List (Nat × Option (Nat × (t : Ty) × t.den)))
  | box (l : Option Nat) (n : Nat) (t : Ty) (x : t.den)
  | rp (l : Option Nat) (t : Ty) (x : t.den)
  | ptr (r : Nat) (p : List St) (t : Ty)
  | view (r : Nat) (p : List St) (t : Ty)
  | hole (v : V) (p : List St)
  | part (r i : Nat) (n : Nat) (t : Ty) (x : t.den)
  deriving Inhabited

structure D where
  n : Nat
  t : Ty
  x : t.den

/-- The slot on which a value hangs. -/
def V.root : V → Option Nat
  | .d l _ _ _ => l
  | .box l _ _ _ => l
  | .rp l _ _ => l
  | .ptr s _ _ => some s
  | .view s _ _ => some s
  | .hole v _ => v.root
  | .part r _ _ _ _ => some r
  | _ => none

def V.on (r : Nat) (v : V) : Bool := v.root == some r

/-! ### questions that are no reads -/
def V.boxy : V → Bool
  | .box _ _ _ _ => true
  | .hole (.box _ _ _ _) _ => true
  | _ => false

def shallow : List St → Bool
  | [] => true
  | .fld _ _ :: p => shallow p
  | _ => false

/-- Something that speaks of r's memory, not of its address alone. -/
def V.deepOn (r : Nat) (v : V) : Bool := v.on r && (match v with
  | .ptr _ p _ => !shallow p
  | _ => true)

/-- Log entries from here on are questions. -/
def tagK : Nat := 100000

def boxKey (s : Nat) : Nat := tagK + 2 * s
def bareKey (r m : Nat) : Nat := tagK + (2 * (r + 100000 * m) + 1)

/-- Is slot s a variable's (even keys)? Does nothing but the slots of a mask (from bit 1 on) hang on r (bit 0), or speak of r's memory (odd keys)? -/
def qok (k s : Nat) (v : V) : Bool :=
  cond ((k - tagK) % 2 == 0) (s != (k - tagK) / 2 || v.boxy) (((k - tagK) / 2 / 100000).testBit (s + 1) || !cond (((k - tagK) / 2 / 100000).testBit 0) (v.on ((k - tagK) / 2 % 100000)) (v.deepOn ((k - tagK) / 2 % 100000)))

def allQ (k : Nat) : Nat → List V → Bool
  | _, [] => true
  | i, v :: l => qok k i v && allQ k (i + 1) l

def askOk (k : Nat) (T : List V) : Bool := allQ k 0 T && ((k - tagK) % 2 == 1 || decide ((k - tagK) / 2 < T.length))

theorem allQ_get {k : Nat} {l : List V} : ∀ {i : Nat}, allQ k i l = true → ∀ s, s < l.length → qok k (i + s) (l.getD s .dead) = true := by
  induction l with
  | nil => intro i _ s hs; exact absurd hs (Nat.not_lt_zero s)
  | cons v l ih =>
    intro i h s hs
    simp only [allQ, Bool.and_eq_true] at h
    cases s with
    | zero => exact h.1
    | succ s =>
      have := ih h.2 s (Nat.lt_of_succ_lt_succ hs)
      rw [show i + 1 + s = i + (s + 1) by omega] at this
      exact this

theorem allQ_of {k : Nat} {l : List V} : ∀ {i : Nat}, (∀ s, s < l.length → qok k (i + s) (l.getD s .dead) = true) → allQ k i l = true := by
  induction l with
  | nil => intro i _; rfl
  | cons v l ih =>
    intro i h
    simp only [allQ, Bool.and_eq_true]
    refine ⟨h 0 (Nat.zero_lt_succ _), ih fun s hs => ?_⟩
    have := h (s + 1) (Nat.succ_lt_succ hs)
    rw [show i + 1 + s = i + (s + 1) by omega]
    exact this

theorem ask_box {s : Nat} {T : List V} (h : askOk (boxKey s) T = true) : (T.getD s .dead).boxy = true := by
  have e : boxKey s - tagK = 2 * s := Nat.add_sub_cancel_left _ _
  unfold askOk at h
  rw [Bool.and_eq_true, e, show 2 * s % 2 = 0 from Nat.mul_mod_right 2 s, show 2 * s / 2 = s from Nat.mul_div_cancel_left s (Nat.zero_lt_succ 1)] at h
  obtain ⟨h1, h2⟩ := h
  have hs : s < T.length := by simpa using h2
  have := allQ_get h1 s hs
  unfold qok at this
  rw [e, show 2 * s % 2 = 0 from Nat.mul_mod_right 2 s, show 2 * s / 2 = s from Nat.mul_div_cancel_left s (Nat.zero_lt_succ 1), Nat.zero_add] at this
  simpa using this

theorem ask_bare {r m : Nat} {T : List V} (hr : r < 100000) (h : askOk (bareKey r m) T = true) (s : Nat) (hs : m.testBit (s + 1) = false) : cond (m.testBit 0) ((T.getD s .dead).on r) ((T.getD s .dead).deepOn r) = false := by
  have e : bareKey r m - tagK = 2 * (r + 100000 * m) + 1 := Nat.add_sub_cancel_left _ _
  have e1 : (2 * (r + 100000 * m) + 1) % 2 = 1 := by omega
  have e2 : (2 * (r + 100000 * m) + 1) / 2 = r + 100000 * m := by omega
  have e3 : (r + 100000 * m) / 100000 = m := by omega
  have e4 : (r + 100000 * m) % 100000 = r := by omega
  unfold askOk at h
  rw [Bool.and_eq_true] at h
  by_cases hl : s < T.length
  · have := allQ_get h.1 s hl
    unfold qok at this
    rw [e, e1, e2, e3, e4, Nat.zero_add, hs] at this
    simpa using this
  · rw [List.getD_eq_getElem?_getD, List.getElem?_eq_none (Nat.le_of_not_lt hl)]
    cases m.testBit 0 <;> rfl

/-- Two states that are alike for a log's entry. -/
def Agr (T T' : List V) (s : Nat) : Prop := (s < tagK → T'.getD s .dead = T.getD s .dead) ∧ (tagK ≤ s → askOk s T = true → askOk s T' = true)

/-- Programs that read slots. -/
inductive M (α : Type) : Type where
  | ret (a : α)
  | fail
  | get (s : Nat) (k : V → M α)
  | bnd (t : Ty) (m : Option t.den) (k : t.den → M α)
  | chk (b : Bool) (k : M α)
  | ask (q : Nat) (k : M α)

def M.bind {α β : Type} : M α → (α → M β) → M β
  | .ret a, f => f a
  | .fail, _ => .fail
  | .get s k, f => .get s fun v => (k v).bind f
  | .bnd t m k, f => .bnd t m fun x => (k x).bind f
  | .chk b k, f => .chk b (k.bind f)
  | .ask q k, f => .ask q (k.bind f)

def M.Runs {α : Type} (T : List V) : M α → α → List Nat → Prop
  | .ret a, b, log => b = a ∧ log = []
  | .fail, _, _ => False
  | .get s k, b, log => ∃ log', log = s :: log' ∧ (k (T.getD s .dead)).Runs T b log'
  | .bnd _ m k, b, log => ∃ x, m = some x ∧ (k x).Runs T b log
  | .chk c k, b, log => c = true ∧ k.Runs T b log
  | .ask q k, b, log => (askOk q T = true ∧ tagK ≤ q) ∧ ∃ log', log = q :: log' ∧ k.Runs T b log'

theorem M.runs_bind {α β : Type} {T : List V} : {m : M α} → {f : α → M β} → {b : β} → {log : List Nat} → (m.bind f).Runs T b log →
    ∃ a log1 log2, log = log1 ++ log2 ∧ m.Runs T a log1 ∧ (f a).Runs T b log2
  | .ret a, f, b, log, h => ⟨a, [], log, rfl, ⟨rfl, rfl⟩, h⟩
  | .fail, _, _, _, h => h.elim
  | .get s k, f, b, log, h => by
    obtain ⟨log', rfl, h⟩ := h
    obtain ⟨a, l1, l2, rfl, h1, h2⟩ := M.runs_bind (m := k _) h
    exact ⟨a, s :: l1, l2, rfl, ⟨l1, rfl, h1⟩, h2⟩
  | .bnd t m k, f, b, log, h => by
    obtain ⟨x, hm, h⟩ := h
    obtain ⟨a, l1, l2, rfl, h1, h2⟩ := M.runs_bind (m := k _) h
    exact ⟨a, l1, l2, rfl, ⟨x, hm, h1⟩, h2⟩
  | .chk c k, f, b, log, h => by
    obtain ⟨hc, h⟩ := h
    obtain ⟨a, l1, l2, rfl, h1, h2⟩ := M.runs_bind (m := k) h
    exact ⟨a, l1, l2, rfl, ⟨hc, h1⟩, h2⟩
  | .ask q k, f, b, log, h => by
    obtain ⟨hc, log', rfl, h⟩ := h
    obtain ⟨a, l1, l2, rfl, h1, h2⟩ := M.runs_bind (m := k) h
    exact ⟨a, q :: l1, l2, rfl, ⟨hc, l1, rfl, h1⟩, h2⟩

/-- What a program does hangs on the slots that it reads alone. -/
theorem M.runs_agree {α : Type} {T T' : List V} (hl : T.length ≤ tagK) (hl' : T'.length = T.length) : {m : M α} → {a : α} → {log : List Nat} → m.Runs T a log → (∀ s ∈ log, Agr T T' s) → m.Runs T' a log
  | .ret _, _, _, h, _ => h
  | .fail, _, _, h, _ => h
  | .get s k, a, log, h, H => by
    obtain ⟨log', rfl, h⟩ := h
    refine ⟨log', rfl, ?_⟩
    have hs : T'.getD s .dead = T.getD s .dead := by
      by_cases hs : s < tagK
      · exact (H s (by simp)).1 hs
      · rw [List.getD_eq_getElem?_getD, List.getD_eq_getElem?_getD, List.getElem?_eq_none (by omega), List.getElem?_eq_none (by omega)]
    rw [hs]
    exact M.runs_agree hl hl' h (fun s hs => H s (by simp [hs]))
  | .bnd _ m k, a, log, h, H => by
    obtain ⟨x, hm, h⟩ := h
    exact ⟨x, hm, M.runs_agree hl hl' h H⟩
  | .chk c k, a, log, h, H => ⟨h.1, M.runs_agree hl hl' h.2 H⟩
  | .ask q k, a, log, h, H => by
    obtain ⟨⟨hc, hq⟩, log', rfl, h⟩ := h
    exact ⟨⟨(H q (by simp)).2 hq hc, hq⟩, log', rfl, M.runs_agree hl hl' h (fun s hs => H s (by simp [hs]))⟩

def M.runK {α R : Type} (T : List V) : M α → List Nat → (List Nat → α → Option R) → Option R
  | .ret a, l, K => K l a
  | .fail, _, _ => none
  | .get s k, l, K => (k (T.getD s .dead)).runK T (s :: l) K
  | .bnd _ m k, l, K => m.bind fun x => (k x).runK T l K
  | .chk b k, l, K => cond b (k.runK T l K) none
  | .ask q k, l, K => cond (askOk q T && decide (tagK ≤ q)) (k.runK T (q :: l) K) none

theorem M.runK_some {α R : Type} {T : List V} {r : R} : {m : M α} → {l : List Nat} → {K : List Nat → α → Option R} → m.runK T l K = some r →
    ∃ a log, m.Runs T a log ∧ K (log.reverse ++ l) a = some r
  | .ret a, l, K, h => ⟨a, [], ⟨rfl, rfl⟩, by simpa [M.runK] using h⟩
  | .fail, _, _, h => by simp [M.runK] at h
  | .get s k, l, K, h => by
    obtain ⟨a, log, h1, h2⟩ := M.runK_some (m := k _) h
    exact ⟨a, s :: log, ⟨log, rfl, h1⟩, by simpa using h2⟩
  | .bnd t m k, l, K, h => by
    simp only [M.runK] at h
    obtain ⟨x, hm, h⟩ := Option.bind_eq_some_iff.1 h
    obtain ⟨a, log, h1, h2⟩ := M.runK_some (m := k x) h
    exact ⟨a, log, ⟨x, hm, h1⟩, h2⟩
  | .chk b k, l, K, h => by
    simp only [M.runK] at h
    cases hb : b with
    | true =>
      rw [hb] at h
      obtain ⟨a, log, h1, h2⟩ := M.runK_some (m := k) h
      exact ⟨a, log, ⟨rfl, h1⟩, h2⟩
    | false =>
      rw [hb] at h
      cases h
  | .ask q k, l, K, h => by
    simp only [M.runK] at h
    cases hb : (askOk q T && decide (tagK ≤ q)) with
    | true =>
      rw [hb] at h
      obtain ⟨a, log, h1, h2⟩ := M.runK_some (m := k) h
      simp only [Bool.and_eq_true, decide_eq_true_eq] at hb
      exact ⟨a, q :: log, ⟨hb, log, rfl, h1⟩, by simpa using h2⟩
    | false =>
      rw [hb] at h
      cases h

/-- And back. -/
theorem M.runK_of {α R : Type} {T : List V} {r : R} : {m : M α} → {a : α} → {l log : List Nat} → {K : List Nat → α → Option R} → m.Runs T a log → K (log.reverse ++ l) a = some r → m.runK T l K = some r
  | .ret _, a, l, log, K, h, hK => by obtain ⟨rfl, rfl⟩ := h; simpa [M.runK] using hK
  | .fail, _, _, _, _, h, _ => h.elim
  | .get s k, a, l, log, K, h, hK => by
    obtain ⟨log', rfl, h⟩ := h
    exact M.runK_of (m := k _) h (by simpa using hK)
  | .bnd t m k, a, l, log, K, h, hK => by
    obtain ⟨x, hm, h⟩ := h
    simp only [M.runK, hm, Option.bind_some]
    exact M.runK_of (m := k x) h hK
  | .chk b k, a, l, log, K, h, hK => by
    obtain ⟨hb, h⟩ := h
    simp only [M.runK]
    rw [hb]
    exact M.runK_of (m := k) h hK
  | .ask q k, a, l, log, K, h, hK => by
    obtain ⟨hb, log', rfl, h⟩ := h
    simp only [M.runK]
    have : (askOk q T && decide (tagK ≤ q)) = true := by simp [hb.1, hb.2]
    rw [this]
    exact M.runK_of (m := k) h (by simpa using hK)

/-! ### fields -/
def compT : Nat → Ty → Option (Nat × Ty)
  | 0, .pair a _ => some (0, a)
  | i + 1, .pair a b => (compT i b).map fun r => (a.sz + r.1, r.2)
  | 0, t => some (0, t)
  | _ + 1, _ => none

def comp : Nat → (t : Ty) → t.den → Option (Nat × (t : Ty) × t.den)
  | 0, .pair a _, x => some (0, ⟨a, x.1⟩)
  | i + 1, .pair a b, x => (comp i b x.2).map fun r => (a.sz + r.1, r.2)
  | 0, .int k, x => some (0, ⟨.int k, x⟩)
  | 0, .bool, x => some (0, ⟨.bool, x⟩)
  | 0, .str, x => some (0, ⟨.str, x⟩)
  | 0, .raw z, x => some (0, ⟨.raw z, x⟩)
  | 0, .unit, x => some (0, ⟨.unit, x⟩)
  | 0, .agg t, x => some (0, ⟨.agg t, x⟩)
  | 0, .slice e t, x => some (0, ⟨.slice e t, x⟩)
  | _ + 1, _, _ => none

def modC : Nat → (t : Ty) → t.den → ((t1 : Ty) → t1.den → M t1.den) → M t.den
  | 0, .pair a _, x, f => (f a x.1).bind fun y => .ret (y, x.2)
  | i + 1, .pair _ b, x, f => (modC i b x.2 f).bind fun y => .ret (x.1, y)
  | 0, .int k, x, f => f (.int k) x
  | 0, .bool, x, f => f .bool x
  | 0, .str, x, f => f .str x
  | 0, .raw z, x, f => f (.raw z) x
  | 0, .unit, x, f => f .unit x
  | 0, .agg t, x, f => f (.agg t) x
  | 0, .slice e t, x, f => f (.slice e t) x
  | _ + 1, _, _, _ => .fail

def getP : List St → (n : Nat) → (t : Ty) → t.den → M D
  | [], n, t, x => .ret ⟨n, t, x⟩
  | .fld i off :: p, n, .agg t, x => match comp i t x with
    | some (o, ⟨t', x'⟩) => if o = off then getP p n t' x' else .fail
    | none => .fail
  | .idx sz i :: p, n + 1, .slice _ t, xs => if sz = t.sz then .bnd t (getI xs i) (fun y => getP p n t y) else .fail
  | _ :: _, _, _, _ => .fail

def modP : List St → (t : Ty) → t.den → (t' : Ty) → t'.den → M t.den
  | [], t, _, t', y => if h : t' = t then .ret (h ▸ y) else .fail
  | .fld i off :: p, .agg t, x, t', y => match compT i t with
    | some (o, _) => if o = off then modC i t x (fun t1 x1 => modP p t1 x1 t' y) else .fail
    | none => .fail
  | .idx sz i :: p, .slice _ t, xs, t', y => if sz = t.sz then .bnd t (getI xs i) (fun z => (modP p t z t' y).bind fun z' => .ret (List.set xs i.toNat z')) else .fail
  | _ :: _, _, _, _, _ => .fail

theorem getI_some {α : Type} {xs : List α} {i : Int} {x : α} (h : getI xs i = some x) : ∃ hi : i.toNat < xs.length, 0 ≤ i ∧ xs[i.toNat] = x := by
  unfold getI at h
  split at h
  · obtain ⟨h1, h2⟩ := List.getElem?_eq_some_iff.1 h
    exact ⟨h1, by assumption, h2⟩
  · cases h

section
variable {w w' : World} {S S' : Nat → Prop} {L L' : Nat → Lab} {s : Nat} {T : List V}

theorem comp_own : {i : Nat} → {t : Ty} → {x : t.den} → {o1 : Nat} → {t1 : Ty} → {x1 : t1.den} → {n : Nat} → {q : List Nat} → {o : Nat} → {cs : List Value} →
    comp i t x = some (o1, ⟨t1, x1⟩) → Own w L S s n t x q o cs → o1 + t1.sz ≤ t.sz ∧ Own w L S s n t1 x1 q (o + o1) ((cs.drop o1).take t1.sz)
  | 0, .pair a b, x, o1, t1, x1, n, q, o, cs, hc, h => by
    simp only [comp, Option.some.injEq, Prod.mk.injEq] at hc
    obtain ⟨rfl, hc⟩ := hc
    cases hc
    simp only [Own] at h
    obtain ⟨c0, c1, rfl, h0, h1⟩ := h
    refine ⟨by simp [Ty.sz], ?_⟩
    rw [List.drop_zero, List.take_left' (Own.len h0)]
    exact h0
  | i + 1, .pair a b, x, o1, t1, x1, n, q, o, cs, hc, h => by
    simp only [comp, Option.map_eq_some_iff] at hc
    obtain ⟨⟨o2, t2, x2⟩, hc, he⟩ := hc
    simp only [Prod.mk.injEq] at he
    obtain ⟨rfl, he⟩ := he
    cases he
    simp only [Own] at h
    obtain ⟨c0, c1, rfl, h0, h1⟩ := h
    obtain ⟨h2, h3⟩ := comp_own hc h1
    refine ⟨by simp only [Ty.sz]; omega, ?_⟩
    rw [← Nat.add_assoc, ← List.drop_drop, List.drop_left' (Own.len h0)]
    exact h3
  | 0, .int _, _, _, _, _, _, _, _, _, hc, h => by
    simp only [comp, Option.some.injEq, Prod.mk.injEq] at hc; obtain ⟨rfl, hc⟩ := hc; cases hc
    exact ⟨by simp, by rw [List.drop_zero, List.take_of_length_le (Nat.le_of_eq (Own.len h))]; exact h⟩
  | 0, .bool, _, _, _, _, _, _, _, _, hc, h => by
    simp only [comp, Option.some.injEq, Prod.mk.injEq] at hc; obtain ⟨rfl, hc⟩ := hc; cases hc
    exact ⟨by simp, by rw [List.drop_zero, List.take_of_length_le (Nat.le_of_eq (Own.len h))]; exact h⟩
  | 0, .str, _, _, _, _, _, _, _, _, hc, h => by
    simp only [comp, Option.some.injEq, Prod.mk.injEq] at hc; obtain ⟨rfl, hc⟩ := hc; cases hc
    exact ⟨by simp, by rw [List.drop_zero, List.take_of_length_le (Nat.le_of_eq (Own.len h))]; exact h⟩
  | 0, .raw _, _, _, _, _, _, _, _, _, hc, h => by
    simp only [comp, Option.some.injEq, Prod.mk.injEq] at hc; obtain ⟨rfl, hc⟩ := hc; cases hc
    exact ⟨by simp, by rw [List.drop_zero, List.take_of_length_le (Nat.le_of_eq (Own.len h))]; exact h⟩
  | 0, .unit, _, _, _, _, _, _, _, _, hc, h => by
    simp only [comp, Option.some.injEq, Prod.mk.injEq] at hc; obtain ⟨rfl, hc⟩ := hc; cases hc
    exact ⟨by simp, by rw [List.drop_zero, List.take_of_length_le (Nat.le_of_eq (Own.len h))]; exact h⟩
  | 0, .agg _, _, _, _, _, _, _, _, _, hc, h => by
    simp only [comp, Option.some.injEq, Prod.mk.injEq] at hc; obtain ⟨rfl, hc⟩ := hc; cases hc
    exact ⟨by simp, by rw [List.drop_zero, List.take_of_length_le (Nat.le_of_eq (Own.len h))]; exact h⟩
  | 0, .slice _ _, _, _, _, _, _, _, _, _, hc, h => by
    simp only [comp, Option.some.injEq, Prod.mk.injEq] at hc; obtain ⟨rfl, hc⟩ := hc; cases hc
    exact ⟨by simp, by rw [List.drop_zero, List.take_of_length_le (Nat.le_of_eq (Own.len h))]; exact h⟩

/-- Data of a slot's own that lies in a row of its own. -/
def InB (w : World) (L : Nat → Lab) (S : Nat → Prop) (s : Nat) (n : Nat) (t : Ty) (x : t.den) (q : List Nat) (o : Nat) : Prop :=
  ∃ g cur e, L g = .own s q ∧ w.heap[g]? = some (.cells cur e (0, 0)) ∧ o + t.sz ≤ cur.size ∧ Own w L S s n t x q o ((cur.toList.drop o).take t.sz)

theorem getP_inB : {p : List St} → {n : Nat} → {t : Ty} → {x : t.den} → {n' : Nat} → {t' : Ty} → {x' : t'.den} → {q : List Nat} → {o : Nat} → {log : List Nat} →
    (getP p n t x).Runs T ⟨n', t', x'⟩ log → InB w L S s n t x q o → InB w L S s n' t' x' (node q o p).1 (node q o p).2
  | [], n, t, x, n', t', x', q, o, log, hr, h => by
    obtain ⟨he, _⟩ := hr
    cases he
    exact h
  | .fld i off :: p, n, .agg t, x, n', t', x', q, o, log, hr, h => by
    simp only [getP] at hr
    split at hr
    · rename_i o1 t1 x1 hc
      split at hr
      · rename_i ho
        subst ho
        refine getP_inB (q := q) (o := o + o1) hr ?_
        obtain ⟨g, cur, e, h1, h2, h3, h4⟩ := h
        simp only [Own] at h4
        obtain ⟨h5, h6⟩ := comp_own hc h4
        simp only [Ty.sz] at h3 h6
        refine ⟨g, cur, e, h1, h2, by omega, ?_⟩
        rw [List.drop_take, List.take_take, List.drop_drop] at h6
        rwa [Nat.min_eq_left (by omega)] at h6
      · exact hr.elim
    · exact hr.elim
  | .idx sz i :: p, n + 1, .slice e t, xs, n', t', x', q, o, log, hr, h => by
    simp only [getP] at hr
    split at hr
    · rename_i hz
      subst hz
      obtain ⟨y, hy, hr⟩ := hr
      obtain ⟨hi, h0, rfl⟩ := getI_some hy
      refine getP_inB (q := q ++ [o]) (o := i.toNat * t.sz) hr ?_
      obtain ⟨g, cur, e', h1, h2, h3, h4⟩ := h
      simp only [Own] at h4
      rcases h4 with ⟨_, rfl⟩ | ⟨g2, cap, cur2, hcs, hL, hg, h5, h6, h7, h8⟩
      · exact absurd hi (by simp)
      · refine ⟨g2, cur2, e, hL, hg, ?_, h8 _ hi⟩
        rw [h7]
        calc i.toNat * t.sz + t.sz = (i.toNat + 1) * t.sz := by rw [Nat.add_mul, Nat.one_mul]
          _ ≤ cap * t.sz := Nat.mul_le_mul_right _ (by omega)
    · exact hr.elim
  | .idx _ _ :: p, 0, .slice _ _, _, _, _, _, _, _, _, hr, _ => by simp only [getP] at hr; exact hr.elim
  | .fld _ _ :: p, _, .int _, _, _, _, _, _, _, _, hr, _ => by simp only [getP] at hr; exact hr.elim
  | .fld _ _ :: p, _, .bool, _, _, _, _, _, _, _, hr, _ => by simp only [getP] at hr; exact hr.elim
  | .fld _ _ :: p, _, .str, _, _, _, _, _, _, _, hr, _ => by simp only [getP] at hr; exact hr.elim
  | .fld _ _ :: p, _, .raw _, _, _, _, _, _, _, _, hr, _ => by simp only [getP] at hr; exact hr.elim
  | .fld _ _ :: p, _, .unit, _, _, _, _, _, _, _, hr, _ => by simp only [getP] at hr; exact hr.elim
  | .fld _ _ :: p, _, .pair _ _, _, _, _, _, _, _, _, hr, _ => by simp only [getP] at hr; exact hr.elim
  | .fld _ _ :: p, _, .slice _ _, _, _, _, _, _, _, _, hr, _ => by simp only [getP] at hr; exact hr.elim
  | .idx _ _ :: p, _, .int _, _, _, _, _, _, _, _, hr, _ => by simp only [getP] at hr; exact hr.elim
  | .idx _ _ :: p, _, .bool, _, _, _, _, _, _, _, hr, _ => by simp only [getP] at hr; exact hr.elim
  | .idx _ _ :: p, _, .str, _, _, _, _, _, _, _, hr, _ => by simp only [getP] at hr; exact hr.elim
  | .idx _ _ :: p, _, .raw _, _, _, _, _, _, _, _, hr, _ => by simp only [getP] at hr; exact hr.elim
  | .idx _ _ :: p, _, .unit, _, _, _, _, _, _, _, hr, _ => by simp only [getP] at hr; exact hr.elim
  | .idx _ _ :: p, _, .pair _ _, _, _, _, _, _, _, _, hr, _ => by simp only [getP] at hr; exact hr.elim
  | .idx _ _ :: p, _, .agg _, _, _, _, _, _, _, _, hr, _ => by simp only [getP] at hr; exact hr.elim
end
end Go.Proofs.Ytdfcejijcnhcaaa.C.Am
