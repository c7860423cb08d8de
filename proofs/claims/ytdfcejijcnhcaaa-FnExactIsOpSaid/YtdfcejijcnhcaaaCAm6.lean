/- A part of the proof: Am6. No conditions. -/
import Derived.Test.YtdfcejijcnhcaaaCAm5
import Derived.Laws.Cells
import Derived.ChangeKeysEq
set_option linter.unusedVariables false
set_option linter.unusedSimpArgs false
namespace Go.Proofs.Ytdfcejijcnhcaaa.C.Am

/-! ## 6. The program's types; loads -/
structure Ctx where
  ty : TypeId → Option Ty
  bytes : TypeId → Nat

def Ty.isAgg : Ty → Bool
  | .agg _ => true
  | _ => false

def fieldsOk (C : Ctx) (t : Ty) (fs : Array Field) : Prop :=
  (∀ (i : Nat) (f : Field), fs[i]? = some f → ∃ t1, compT i t = some (f.offset, t1) ∧ C.ty f.type = some t1 ∧ t1.sz ≠ 0 ∧ f.name ≠ "_") ∧ ∀ i r, compT i t = some r → i < fs.size

structure TyOk (P : Program) (C : Ctx) (T : TypeId) (t : Ty) : Prop where
  info : ∃ i z, P.info? T = some i ∧ i.size = t.sz ∧ i.bytes = C.bytes T ∧ i.zero = some z ∧ Form t t.zcells z
  und : match t with
    | .int k => P.underlying T = some (.int k)
    | .bool => P.underlying T = some .bool
    | .str => P.underlying T = some .string
    | .raw _ => ∃ d, P.underlying T = some d ∧ (∀ fs, d ≠ .struct fs) ∧ ∀ n e, d ≠ .array n e
    | .agg t' => (∃ fs, P.underlying T = some (.struct fs) ∧ fieldsOk C t' fs) ∧ P.stoodInHeld T = false ∧ P.eqGuardType P.depth T = false
    | .slice e t' => P.underlying T = some (.slice e) ∧ C.ty e = some t'
    | _ => False

def CtxOk (P : Program) (C : Ctx) : Prop := ∀ T t, C.ty T = some t → TyOk P C T t

section
variable {P : Program} {C : Ctx} {w w' w0 : World} {S S' : Nat → Prop} {L L' L0 : Nat → Lab} {s N : Nat} {vs : List Nat} {T T' : List V} {tm tm' : Array Value} {a : Act}

theorem TyOk.run_isAgg {X : TypeId} {t : Ty} (h : TyOk P C X t) : (isAgg X).run P w = .ok t.isAgg w := by
  have := h.und
  unfold isAgg
  cases t with
  | int k => simp [run_underlying this, Ty.isAgg]
  | bool => simp [run_underlying this, Ty.isAgg]
  | str => simp [run_underlying this, Ty.isAgg]
  | raw z =>
    obtain ⟨d, h1, h2, h3⟩ := this
    simp only [Sem.run_bind, run_underlying h1, Result.andThen_ok]
    cases d <;> simp_all [Ty.isAgg]
  | unit => exact this.elim
  | pair a b => exact this.elim
  | agg t =>
    obtain ⟨⟨fs, h1, _⟩, _⟩ := this
    simp [run_underlying h1, Ty.isAgg]
  | slice e t => simp [run_underlying this.1, Ty.isAgg]

theorem TyOk.run_sizeOf {X : TypeId} {t : Ty} (h : TyOk P C X t) : (sizeOf X).run P w = .ok t.sz w := by
  obtain ⟨i, z, h1, h2, _⟩ := h.info
  simp [sizeOf, Go.run_typeInfo w h1, h2]

theorem TyOk.sz1 {X : TypeId} {t : Ty} (h : TyOk P C X t) (ha : t.isAgg = false) : t.sz = 1 := by
  have := h.und
  cases t <;> simp_all [Ty.sz, Ty.isAgg]

theorem Form.of_one {t : Ty} {cs : List Value} (h : t.sz = 1) (ha : t.isAgg = false) (hl : cs.length = t.sz) : ∃ c, cs = [c] ∧ Form t cs c := by
  rw [h] at hl
  match cs, hl with
  | [c], _ => exact ⟨c, rfl, by cases t <;> simp_all [Form, Ty.isAgg]⟩

theorem TyOk.run_loadVar {X : TypeId} {t : Ty} (h : TyOk P C X t) {g o : Nat} {cs : List Value} (hl : cs.length = t.sz)
    (hc : ∀ (i : Nat) (v : Value), cs[i]? = some v → w.cell? ⟨g, o + i, none⟩ = some v) : ∃ c, (loadVar X ⟨g, o, none⟩).run P w = .ok c w ∧ Form t cs c := by
  have hc' : ∀ (j : Nat) (v : Value), cs[j]? = some v → w.cell? ((⟨g, o, none⟩ : Addr).add j) = some v := fun j v hv => by
    rw [Addr.add_lit]
    exact hc j v hv
  cases ha : t.isAgg with
  | true =>
    refine ⟨.agg cs.toArray, ?_, by cases t <;> simp_all [Form, Ty.isAgg]⟩
    unfold loadVar
    simp only [Sem.run_bind, h.run_isAgg, Result.andThen_ok, ha, if_true, h.run_sizeOf]
    rw [← hl, run_loadCells_list w _ cs hc']
    rfl
  | false =>
    obtain ⟨c, rfl, hf⟩ := Form.of_one (h.sz1 ha) ha hl
    refine ⟨c, ?_, hf⟩
    unfold loadVar
    have := hc 0 c rfl
    simp only [Nat.add_zero] at this
    simp [h.run_isAgg, ha, this]

theorem cell_cells {g : Nat} {cur : Array Value} {e : TypeId} {fr : Nat × Nat} (h : w.heap[g]? = some (.cells cur e fr)) (i : Nat) : w.cell? ⟨g, i, none⟩ = cur[i]? := by
  simp [World.cell?, h]

theorem InB.cell {g o sz : Nat} {cur : Array Value} {e : TypeId} {fr : Nat × Nat} (h : w.heap[g]? = some (.cells cur e fr)) :
    ∀ (i : Nat) (v : Value), ((cur.toList.drop o).take sz)[i]? = some v → w.cell? ⟨g, o + i, none⟩ = some v := fun i v hv => by
  rw [cell_cells h]
  rw [List.getElem?_take] at hv
  split at hv
  · simpa using hv
  · cases hv

/-- Reading through a slot's own data needs no more than the labels. -/
theorem Own.rd {n : Nat} : {t : Ty} → {x : t.den} → {q : List Nat} → {o : Nat} → {cs : List Value} → (∀ k q, L k = .own s q → S' k) → (∀ k, S k → S' k) → Own w L S s n t x q o cs → Rd w S' t x cs :=
  fun {t x q o cs} H1 H2 h => by
    have := Own.freeze (w' := w) (L' := L) (S' := S') (m := 0) (Nat.zero_le _) (fun k hk => ⟨H2 k hk, rfl⟩) (fun k d rest _ hk => ⟨rfl, fun h => absurd h (by omega), fun _ => H1 k _ hk⟩) h
    exact Own.rd0 this

theorem Own.at0 {t : Ty} {x : t.den} {n n' : Nat} {q q' : List Nat} {o o' s' : Nat} {cs : List Value} (hn : n = 0 ∨ t.depth = 0) (h : Own w L S s n t x q o cs) (hn' : n' = 0 ∨ t.depth = 0) : Own w L S s' n' t x q' o' cs := by
  by_cases hd : t.depth = 0
  · exact Own.flat hd h
  · obtain rfl : n = 0 := by omega
    obtain rfl : n' = 0 := by omega
    exact Own.of_rd (Own.rd0 h)

theorem TRep.slot {s' : Nat} : {l : List (Nat × Option (Nat × (t : Ty) × t.den))} → {o : Nat} → {vs : List Value} → (∀ c ∈ l, compOwns c.2 = false) →
    TRep w L s o l vs → TRep w L s' o l vs
  | [], _, _, _, h => h
  | (sz, c) :: l, o, vs, H, ⟨v, vs', h1, h2, h3⟩ => ⟨v, vs', h1, fun n t x hc => by
      obtain ⟨h4, cs, h5, h6⟩ := h2 n t x hc
      have := H (sz, c) (by simp)
      rw [hc] at this
      simp only [compOwns, Bool.and_eq_false_iff, bne_eq_false_iff_eq] at this
      exact ⟨h4, cs, h5, Own.at0 this h6 this⟩, TRep.slot (fun c hc => H c (by simp [hc])) h3⟩

/-- A value that owns nothing may be held by any slot. -/
theorem SRep.slot {s' : Nat} : {v : V} → {c : Value} → v.owns = false → SRep L T tm s v w c → SRep L T tm s' v w c
  | .dead, _, _, _ => trivial
  | .d l n t x, c, ho, ⟨h0, cs, h1, h2⟩ => by
    have hn : n = 0 ∨ t.depth = 0 := by
      simp only [V.owns, Bool.and_eq_false_iff, bne_eq_false_iff_eq] at ho
      exact ho
    exact ⟨h0, cs, h1, Own.at0 hn h2 hn⟩
  | .tup _, _, ho, _ => by simp [V.owns] at ho
  | .box .., _, ho, _ => by simp [V.owns] at ho
  | .rp .., _, _, h => h
  | .ptr .., _, _, h => h
  | .view .., _, _, h => h
  | .hole .., _, ho, _ => by simp [V.owns] at ho
  | .part .., _, ho, _ => by simp [V.owns] at ho

/-- Copying a value that owns nothing into an idle slot. -/
theorem SRep.copy (hI : Inv w0 L0 N vs T a w L) {d t : Nat} (hid : (T.getD d .dead).idle = true) {v v' : V} {c : Value} {w' : World} {L' : Nat → Lab} (hg : Grows w w' L L' d)
    (ho : v.owns = false) (h : SRep L T a.tmps t v w c) (c' : Value) : SRep L' (T.set d v') (a.tmps.setIfInBounds d c') d v w' c := by
  refine SRep.slot (s := t) ho (SRep.keep (fun k hk => hg.old k (hI.lt ?_)) (fun r _ hq => ?_) h)
  · rcases hk with hk | ⟨r, q, hk, _⟩ <;> rw [hk] <;> simp
  · have hrd : r ≠ d := idle_ne hid hq
    rw [getD_set, if_neg (fun h => hrd h.1), getD_setA, if_neg (fun h => hrd h.1)]
    exact ⟨rfl, rfl⟩
end
end Go.Proofs.Ytdfcejijcnhcaaa.C.Am
