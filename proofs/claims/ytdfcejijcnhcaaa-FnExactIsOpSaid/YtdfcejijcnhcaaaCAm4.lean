/- A part of the proof: Am4. No conditions. -/
import Derived.Test.YtdfcejijcnhcaaaCAm3
import Derived.Below
set_option linter.unusedVariables false
set_option linter.unusedSimpArgs false
namespace Go.Proofs.Ytdfcejijcnhcaaa.C.Am

/-! ## 4. What the slots say of the world -/
/-- A value in a slot, by its cells. -/
def Form : Ty → List Value → Value → Prop
  | .agg _, cs, c => c = .agg cs.toArray
  | _, cs, c => cs = [c]

/-- The blocks in which lent data lies. -/
def SL (L : Nat → Lab) (l : Option Nat) : Nat → Prop := fun k => L k = .stable ∨ ∃ r q, l = some r ∧ L k = .own r q

def compOwns : Option (Nat × (t : Ty) × t.den) → Bool
  | some (n, ⟨t, _⟩) => n != 0 && t.depth != 0
  | none => false

def V.owns : V → Bool
  | .d _ n t _ => n != 0 && t.depth != 0
  | .tup _ => true
  | .part .. => true
  | .box .. => true
  | .hole .. => true
  | _ => false

/-- Rows of its own below: views into it may be had. -/
def V.deep : V → Bool
  | .d _ n t _ => n != 0 && t.depth != 0
  | .box _ n t _ => n != 0 && t.depth != 0
  | _ => false

theorem V.owns_of_deep : {v : V} → v.deep = true → v.owns = true
  | .d _ _ _ _, h => h
  | .box _ _ _ _, _ => rfl
  | .dead, h | .tup _, h | .rp _ _ _, h | .ptr _ _ _, h | .view _ _ _, h | .hole _ _, h | .part _ _ _ _ _, h => by simp [V.deep] at h

def V.isD : V → Bool
  | .d .. => true
  | _ => false

/-- The components of a tuple, each at its offset. -/
def TRep (w : World) (L : Nat → Lab) (s : Nat) : Nat → List (Nat × Option (Nat × (t : Ty) × t.den)) → List Value → Prop
  | _, [], vs => vs = []
  | o, (sz, c) :: l, vs => ∃ v vs', vs = v :: vs' ∧ (∀ n t x, c = some (n, ⟨t, x⟩) → t.sz = sz ∧ ∃ cs, Form t cs v ∧ Own w L (SL L none) s n t x [] o cs) ∧ TRep w L s (o + sz) l vs'

def SRep (L : Nat → Lab) (T : List V) (tm : Array Value) (s : Nat) : V → World → Value → Prop
  | .dead, _, _ => True
  | .d l n t x, w, c => (∀ r, l = some r → (T.getD r .dead).deep = true) ∧ ∃ cs, Form t cs c ∧ Own w L (SL L l) s n t x [] 0 cs
  | .tup l, w, c => ∃ vs, c = .tuple vs ∧ TRep w L s 0 l vs.toList
  | .box l n t x, w, c => (∀ r, l = some r → (T.getD r .dead).deep = true) ∧ ∃ g cur e, c = .pointer (some ⟨g, 0, none⟩) ∧ L g = .own s [] ∧ w.heap[g]? = some (.cells cur e (0, 0)) ∧ cur.size = t.sz ∧
      Own w L (SL L l) s n t x [] 0 cur.toList
  | .rp l t x, w, c => (∀ r, l = some r → (T.getD r .dead).deep = true) ∧ ∃ g o cs, c = .pointer (some ⟨g, o, none⟩) ∧ SL L l g ∧ Rd w (SL L l) t x cs ∧ ∀ i v, cs[i]? = some v → w.cell? ⟨g, o + i, none⟩ = some v
  | .ptr r p t, _, c => ∃ g, c = .pointer (some ⟨g, (node [] 0 p).2, none⟩) ∧ L g = .own r (node [] 0 p).1
  | .view r p t, w, c => (T.getD r .dead).deep = true ∧ ((p = [] ∧ c = tm.getD r undef ∧ ∃ l n x, T.getD r .dead = .d l n t x ∧ (V.d l n t x).owns = true) ∨
      ∃ g cur e, ((T.getD r .dead).isD = false ∨ p ≠ []) ∧ L g = .own r (node [] 0 p).1 ∧ w.heap[g]? = some (.cells cur e (0, 0)) ∧ (node [] 0 p).2 + t.sz ≤ cur.size ∧ Form t ((cur.toList.drop (node [] 0 p).2).take t.sz) c)
  | .hole v p, w, c => v.root = none ∧ ∃ g cur e, L g = .own s (node [] 0 p).1 ∧ w.heap[g]? = some (.cells cur e (0, 0)) ∧ (node [] 0 p).2 < cur.size ∧
      SRep L T tm s v (w.setCell ⟨g, (node [] 0 p).2, none⟩ (.slice none 0 0)) c
  | .part r i n t x, w, _ => (T.getD r .dead).owns = true ∧ ∃ vs v cs, tm.getD r undef = .tuple vs ∧ vs[i]? = some v ∧ Form t cs v ∧ Own w L (SL L none) s n t x [] 0 cs

/-- What stays of the world in which the call began. -/
structure Fr (w0 : World) (L0 : Nat → Lab) (w : World) (L : Nat → Lab) : Prop where
  os : w.os = w0.os
  tape : w.tape = w0.tape
  output : w.output = w0.output
  size : w0.heap.size ≤ w.heap.size
  keep : ∀ k, k < w0.heap.size → (L0 k = .stable ∨ L0 k = .other) → L k = L0 k ∧ w.heap[k]? = w0.heap[k]?

structure Inv (w0 : World) (L0 : Nat → Lab) (N : Nat) (vs : List Nat) (T : List V) (a : Act) (w : World) (L : Nat → Lab) : Prop where
  size : a.tmps.size = N
  len : T.length = N
  dfr : a.defers = []
  fr : Fr w0 L0 w L
  free : ∀ k, w.heap.size ≤ k → L k = .free
  inj : ∀ k k' s q, L k = .own s q → L k' = .own s q → k = k'
  owner : ∀ k s q, L k = .own s q → (T.getD s .dead).owns = true
  roots : ∀ s r, (T.getD s .dead).on r = true → r ∈ vs
  slots : ∀ s, SRep L T a.tmps s (T.getD s .dead) w (a.tmps.getD s undef)

section
variable {w w' w0 : World} {S S' : Nat → Prop} {L L' L0 : Nat → Lab} {s N : Nat} {vs : List Nat} {T T' : List V} {tm tm' : Array Value} {a : Act}

/-- A slot's word stays where nothing that it speaks of has turned; the slots that it looks at are as they were. -/
theorem SL.keep {l : Option Nat} (H : ∀ k, (L k = .stable ∨ ∃ r q, L k = .own r q ∧ l = some r) → L' k = L k ∧ w'.heap[k]? = w.heap[k]?) :
    ∀ k, SL L l k → SL L' l k ∧ w'.heap[k]? = w.heap[k]? := by
  rintro k (h | ⟨r, q, hl, h⟩)
  · have := H k (.inl h)
    exact ⟨.inl (this.1.trans h), this.2⟩
  · have := H k (.inr ⟨r, q, h, hl⟩)
    exact ⟨.inr ⟨r, q, hl, this.1.trans h⟩, this.2⟩

theorem Own.keep {l : Option Nat} {n : Nat} {t : Ty} {x : t.den} {q : List Nat} {o : Nat} {cs : List Value}
    (H : ∀ k, (L k = .stable ∨ ∃ r q, L k = .own r q ∧ (r = s ∨ l = some r)) → L' k = L k ∧ w'.heap[k]? = w.heap[k]?)
    (h : Own w L (SL L l) s n t x q o cs) : Own w' L' (SL L' l) s n t x q o cs :=
  Own.move (SL.keep fun k hk => H k (hk.imp id fun ⟨r, q, h, hl⟩ => ⟨r, q, h, .inr hl⟩)) (fun k d rest hd hk => by
    have := H k (.inr ⟨s, _, hk, .inl rfl⟩)
    exact ⟨this.1.trans hk, this.2⟩) h

theorem setCell_heap {w w' : World} {k : Nat} (h : w'.heap[k]? = w.heap[k]?) (a : Addr) (u : Value) : (w'.setCell a u).heap[k]? = (w.setCell a u).heap[k]? := by
  simp only [World.setCell, Array.getElem?_modify]
  split
  · rw [h]
  · exact h

theorem TRep.keep : {l : List (Nat × Option (Nat × (t : Ty) × t.den))} → {o : Nat} → {vs : List Value} →
    (∀ k, (L k = .stable ∨ ∃ q, L k = .own s q) → L' k = L k ∧ w'.heap[k]? = w.heap[k]?) → TRep w L s o l vs → TRep w' L' s o l vs
  | [], _, _, _, h => h
  | (sz, c) :: l, o, vs, H, ⟨v, vs', h1, h2, h3⟩ => ⟨v, vs', h1, fun n t x hc => by
      obtain ⟨h4, cs, h5, h6⟩ := h2 n t x hc
      exact ⟨h4, cs, h5, Own.keep (fun k hk => H k (hk.imp id fun ⟨r, q, h, hl⟩ => by
        rcases hl with rfl | hl
        · exact ⟨q, h⟩
        · cases hl)) h6⟩, TRep.keep H h3⟩

theorem SRep.keep : {v : V} → {c : Value} → {w w' : World} →
    (∀ k, (L k = .stable ∨ ∃ r q, L k = .own r q ∧ (r = s ∨ v.on r = true)) → L' k = L k ∧ w'.heap[k]? = w.heap[k]?) →
    (hr : ∀ r, v.on r = true → (T.getD r .dead).owns = true → T'.getD r .dead = T.getD r .dead ∧ tm'.getD r undef = tm.getD r undef) →
    SRep L T tm s v w c → SRep L' T' tm' s v w' c
  | .dead, _, _, _, _, _, _ => trivial
  | .d l n t x, _, _, _, H, hr, ⟨h0, cs, h1, h2⟩ => ⟨fun r hl => by subst hl; have := h0 r rfl; rwa [(hr r (by simp [V.on, V.root]) (V.owns_of_deep this)).1], cs, h1, Own.keep (fun k hk => H k (hk.imp id fun ⟨r, q, h, hl⟩ => ⟨r, q, h, hl.imp id fun e => by subst e; simp [V.on, V.root]⟩)) h2⟩
  | .tup l, _, _, _, H, _, ⟨vs, h1, h2⟩ => ⟨vs, h1, TRep.keep (fun k hk => H k (hk.imp id fun ⟨q, h⟩ => ⟨s, q, h, .inl rfl⟩)) h2⟩
  | .box l n t x, _, _, _, H, hr, ⟨h0, g, cur, e, h1, h2, h3, h4, h5⟩ => by
    have hh := H g (.inr ⟨s, _, h2, .inl rfl⟩)
    exact ⟨fun r hl => by subst hl; have := h0 r rfl; rwa [(hr r (by simp [V.on, V.root]) (V.owns_of_deep this)).1], g, cur, e, h1, hh.1.trans h2, hh.2.trans h3, h4, Own.keep (fun k hk => H k (hk.imp id fun ⟨r, q, h, hl⟩ => ⟨r, q, h, hl.imp id fun e => by subst e; simp [V.on, V.root]⟩)) h5⟩
  | .rp l t x, _, _, _, H, hr, ⟨h0, g, o, cs, h1, h2, h3, h4⟩ => by
    have HS : ∀ k, SL L l k → SL L' l k ∧ _ := SL.keep (fun k hk => H k (hk.imp id fun ⟨r, q, h, hl⟩ => ⟨r, q, h, .inr (by subst hl; simp [V.on, V.root])⟩))
    have hh := HS g h2
    refine ⟨fun r hl => by subst hl; have := h0 r rfl; rwa [(hr r (by simp [V.on, V.root]) (V.owns_of_deep this)).1], g, o, cs, h1, hh.1, Rd.move HS h3, fun i v hv => ?_⟩
    rw [World.cell?_of_block hh.2]
    exact h4 i v hv
  | .ptr r p t, _, _, _, H, _, ⟨g, h1, h2⟩ => ⟨g, h1, (H g (.inr ⟨r, _, h2, .inr (by simp [V.on, V.root])⟩)).1.trans h2⟩
  | .view r p t, _, _, _, H, hr, ⟨hdp, h⟩ => by
    have hh0 := hr r (by simp [V.on, V.root]) (V.owns_of_deep hdp)
    refine ⟨by rw [hh0.1]; exact hdp, ?_⟩
    rcases h with ⟨h1, h2, l, n, x, h3, h4⟩ | ⟨g, cur, e, hp, h1, h2, h3, h4⟩
    · exact .inl ⟨h1, h2.trans hh0.2.symm, l, n, x, hh0.1.trans h3, h4⟩
    · have hh := H g (.inr ⟨r, _, h1, .inr (by simp [V.on, V.root])⟩)
      exact .inr ⟨g, cur, e, by rw [hh0.1]; exact hp, hh.1.trans h1, hh.2.trans h2, h3, h4⟩
  | .hole v p, c, _, _, H, hr, ⟨h0, g, cur, e, h1, h2, h3, h4⟩ => by
    have hh := H g (.inr ⟨s, _, h1, .inl rfl⟩)
    refine ⟨h0, g, cur, e, hh.1.trans h1, hh.2.trans h2, h3, ?_⟩
    refine SRep.keep (v := v) (fun k hk => ?_) (fun r hr' ho => hr r (by simpa [V.on, V.root] using hr') ho) h4
    have := H k (hk.imp id fun ⟨r, q, h, hl⟩ => ⟨r, q, h, hl.imp id fun e => by simpa [V.on, V.root] using e⟩)
    exact ⟨this.1, setCell_heap this.2 _ _⟩
  | .part r i n t x, c, _, _, H, hr, ⟨h0, vs, v, cs, h1, h2, h3, h4⟩ => by
    have hh := hr r (by simp [V.on, V.root]) h0
    refine ⟨by rw [hh.1]; exact h0, vs, v, cs, by rw [hh.2]; exact h1, h2, h3, Own.keep (fun k hk => H k (hk.imp id fun ⟨r', q, h, hl⟩ => ⟨r', q, h, ?_⟩)) h4⟩
    rcases hl with rfl | hl
    · exact .inl rfl
    · cases hl

/-- The step of the invariant: X are the slots that are touched. -/
theorem Inv.upd {a a' : Act} (X : Nat → Prop) (hI : Inv w0 L0 N vs T a w L)
    (hsz : a'.tmps.size = N) (hlen : T'.length = N) (hdf : a'.defers = []) (hfr : Fr w0 L0 w' L') (hfree : ∀ k, w'.heap.size ≤ k → L' k = .free)
    (hinj : ∀ k k' s q, L' k = .own s q → L' k' = .own s q → k = k') (hown : ∀ k s q, L' k = .own s q → (T'.getD s .dead).owns = true)
    (hkeep : ∀ s, ¬ X s → ∀ k, (L k = .stable ∨ ∃ r q, L k = .own r q ∧ (r = s ∨ (T.getD s .dead).on r = true)) → L' k = L k ∧ w'.heap[k]? = w.heap[k]?)
    (hsame : ∀ s, ¬ X s → T'.getD s .dead = T.getD s .dead ∧ a'.tmps.getD s undef = a.tmps.getD s undef)
    (hroots : ∀ s r, (T'.getD s .dead).on r = true → r ∈ vs)
    (hlook : ∀ s r, ¬ X s → (T.getD s .dead).on r = true → (T.getD r .dead).owns = true → T'.getD r .dead = T.getD r .dead ∧ a'.tmps.getD r undef = a.tmps.getD r undef)
    (hX : ∀ s, X s → SRep L' T' a'.tmps s (T'.getD s .dead) w' (a'.tmps.getD s undef)) : Inv w0 L0 N vs T' a' w' L' := by
  refine ⟨hsz, hlen, hdf, hfr, hfree, hinj, hown, hroots, fun s => ?_⟩
  by_cases hs : X s
  · exact hX s hs
  · obtain ⟨h1, h2⟩ := hsame s hs
    rw [h1, h2]
    exact SRep.keep (hkeep s hs) (fun r hr ho => hlook s r hs hr ho) (hI.slots s)

end
end Go.Proofs.Ytdfcejijcnhcaaa.C.Am
