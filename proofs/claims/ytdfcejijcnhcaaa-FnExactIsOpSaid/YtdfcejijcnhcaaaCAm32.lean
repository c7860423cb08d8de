/- A part of the proof: Am32. No conditions. -/
import Derived.Test.YtdfcejijcnhcaaaCAm31
set_option linter.unusedVariables false
set_option linter.unusedSimpArgs false
namespace Go.Proofs.Ytdfcejijcnhcaaa.C.Am

/-! ## 32. The table of types is checked -/
abbrev Tys := List (Nat × Ty × Nat)

def lookT : Tys → TypeId → Option (Ty × Nat)
  | [], _ => none
  | (k, t) :: l, T => cond (k == T) (some t) (lookT l T)

def mkCtx (tys : Tys) : Ctx := { ty := fun T => (lookT tys T).map (·.1), bytes := fun T => ((lookT tys T).map (·.2)).getD 0 }

def zcellB : Value → Value → Bool
  | .int k n, .int k' n' => k == k' && n == n'
  | .bool b, .bool b' => b == b'
  | .string s, .string s' => s.size == 0 && s'.size == 0
  | .pointer none, .pointer none => true
  | .nilFunc, .nilFunc => true
  | .nilIface, .nilIface => true
  | .slice none a b, .slice none a' b' => a == a' && b == b'
  | _, _ => false

def zcellsB : List Value → List Value → Bool
  | [], [] => true
  | a :: l, b :: l' => zcellB a b && zcellsB l l'
  | _, _ => false

def formB (t : Ty) (z : Value) : Bool := match t with
  | .agg _ => match z with
    | .agg cs => zcellsB t.zcells cs.toList
    | _ => false
  | _ => zcellsB t.zcells [z]

theorem bytes_nil {s : ByteArray} (h : (s.size == 0) = true) : s = ByteArray.empty := by
  obtain ⟨d⟩ := s
  have : d.size = 0 := by simpa [ByteArray.size] using h
  have : d = #[] := Array.eq_empty_of_size_eq_zero this
  rw [this]; rfl

theorem zcellB_eq {a b : Value} (h : zcellB a b = true) : a = b := by
  unfold zcellB at h
  split at h
  · simp only [Bool.and_eq_true, beq_iff_eq] at h; rw [h.1, h.2]
  · simp only [beq_iff_eq] at h; rw [h]
  · simp only [Bool.and_eq_true] at h; rw [bytes_nil h.1, bytes_nil h.2]
  · rfl
  · rfl
  · rfl
  · simp only [Bool.and_eq_true, beq_iff_eq] at h; rw [h.1, h.2]
  · cases h

theorem zcellsB_eq : {l l' : List Value} → zcellsB l l' = true → l = l'
  | [], [], _ => rfl
  | a :: l, b :: l', h => by
    simp only [zcellsB, Bool.and_eq_true] at h
    rw [zcellB_eq h.1, zcellsB_eq h.2]
  | [], _ :: _, h => by simp [zcellsB] at h
  | _ :: _, [], h => by simp [zcellsB] at h

theorem formB_eq {t : Ty} {z : Value} (h : formB t z = true) : Form t t.zcells z := by
  unfold formB at h
  split at h
  · split at h
    · rename_i cs
      have := zcellsB_eq h
      show Value.agg cs = _
      rw [this]
    · cases h
  · have := zcellsB_eq h
    cases t with
    | agg t => rename_i hn; exact absurd rfl (hn t)
    | _ => exact this

def fieldsB (C : Ctx) (t : Ty) : Nat → List Field → Bool
  | i, [] => (compT i t).isNone
  | i, f :: l => (match compT i t, C.ty f.type with
    | some (o, t1), some t2 => o == f.offset && decide (t1 = t2) && t1.sz != 0 && f.name != "_"
    | _, _ => false) && fieldsB C t (i + 1) l

def undB (P : Program) (C : Ctx) (T : TypeId) (t : Ty) : Bool := match t, P.underlying T with
  | .int k, some (.int k') => k == k'
  | .bool, some .bool => true
  | .str, some .string => true
  | .raw _, some (.pointer _) => true
  | .raw _, some (.func ..) => true
  | .raw _, some (.interface _) => true
  | .agg t', some (.struct fs) => fieldsB C t' 0 fs.toList && !P.stoodInHeld T && !P.eqGuardType P.depth T
  | .slice e t', some (.slice e') => e == e' && decide (C.ty e = some t')
  | _, _ => false

def tyB (P : Program) (C : Ctx) (T : TypeId) (t : Ty) : Bool := (match P.info? T with
  | some i => i.size == t.sz && i.bytes == C.bytes T && (match i.zero with
    | some z => formB t z
    | none => false)
  | none => false) && undB P C T t

theorem compT_none {t : Ty} : {i : Nat} → compT i t = none → ∀ j, i ≤ j → compT j t = none := by
  have step : ∀ (i : Nat) (t : Ty), compT i t = none → compT (i + 1) t = none := by
    intro i
    induction i with
    | zero => intro t h; cases t <;> simp [compT] at h
    | succ i ih =>
      intro t h
      cases t with
      | pair a b =>
        simp only [compT, Option.map_eq_none_iff] at h ⊢
        exact ih b h
      | _ => rfl
  intro i h j hj
  induction hj with
  | refl => exact h
  | step _ ih => exact step _ _ ih

theorem fieldsB_ok {C : Ctx} {t : Ty} : {i : Nat} → {l : List Field} → fieldsB C t i l = true → (∀ (j : Nat) (f : Field), l[j]? = some f → ∃ t1, compT (i + j) t = some (f.offset, t1) ∧ C.ty f.type = some t1 ∧ t1.sz ≠ 0 ∧ f.name ≠ "_") ∧ compT (i + l.length) t = none
  | i, [], h => ⟨fun j f hj => by simp at hj, by simpa [fieldsB] using h⟩
  | i, f :: l, h => by
    simp only [fieldsB, Bool.and_eq_true] at h
    obtain ⟨h1, h2⟩ := h
    obtain ⟨h3, h4⟩ := fieldsB_ok h2
    refine ⟨fun j f' hj => ?_, by rw [List.length_cons, show i + (l.length + 1) = i + 1 + l.length by omega]; exact h4⟩
    cases j with
    | zero =>
      simp only [List.getElem?_cons_zero, Option.some.injEq] at hj
      subst hj
      split at h1
      · rename_i o t1 t2 hc ht
        simp only [Bool.and_eq_true, beq_iff_eq, decide_eq_true_eq, bne_iff_ne] at h1
        obtain ⟨⟨⟨rfl, rfl⟩, h5⟩, h6⟩ := h1
        exact ⟨t1, by rw [Nat.add_zero]; exact hc, ht, h5, h6⟩
      · cases h1
    | succ j =>
      have := h3 j f' (by simpa using hj)
      rwa [show i + 1 + j = i + (j + 1) by omega] at this

theorem undB_ok {P : Program} {C : Ctx} {T : TypeId} {t : Ty} : undB P C T t = true → match t with
    | .int k => P.underlying T = some (.int k)
    | .bool => P.underlying T = some .bool
    | .str => P.underlying T = some .string
    | .raw _ => ∃ d, P.underlying T = some d ∧ (∀ fs, d ≠ .struct fs) ∧ ∀ n e, d ≠ .array n e
    | .agg t' => (∃ fs, P.underlying T = some (.struct fs) ∧ fieldsOk C t' fs) ∧ P.stoodInHeld T = false ∧ P.eqGuardType P.depth T = false
    | .slice e t' => P.underlying T = some (.slice e) ∧ C.ty e = some t'
    | _ => False := by
  intro h
  unfold undB at h
  split at h
  · rename_i hu; rw [beq_iff_eq] at h; subst h; exact hu
  · assumption
  · assumption
  · rename_i hu; exact ⟨_, hu, by simp, by simp⟩
  · rename_i hu; exact ⟨_, hu, by simp, by simp⟩
  · rename_i hu; exact ⟨_, hu, by simp, by simp⟩
  · rename_i t' fs hu
    simp only [Bool.and_eq_true, Bool.not_eq_true'] at h
    obtain ⟨⟨h1, h2⟩, h3⟩ := h
    obtain ⟨h4, h5⟩ := fieldsB_ok h1
    refine ⟨⟨fs, hu, fun i f hf => ?_, fun i r hr => ?_⟩, h2, h3⟩
    · have := h4 i f (by simpa using hf)
      rwa [Nat.zero_add] at this
    · rcases Nat.lt_or_ge i fs.size with h | h
      · exact h
      · rw [Nat.zero_add, Array.length_toList] at h5
        rw [compT_none h5 i h] at hr
        cases hr
  · rename_i hu
    simp only [Bool.and_eq_true, beq_iff_eq, decide_eq_true_eq] at h
    obtain ⟨rfl, h2⟩ := h
    exact ⟨hu, h2⟩
  · cases h

theorem tyB_ok {P : Program} {C : Ctx} {T : TypeId} {t : Ty} (h : tyB P C T t = true) : TyOk P C T t := by
  unfold tyB at h
  simp only [Bool.and_eq_true] at h
  obtain ⟨h1, h2⟩ := h
  refine ⟨?_, by have h3 := undB_ok h2; cases t <;> exact h3⟩
  split at h1
  · rename_i i hi
    simp only [Bool.and_eq_true, beq_iff_eq] at h1
    obtain ⟨⟨h3, h4⟩, h5⟩ := h1
    split at h5
    · rename_i z hz
      exact ⟨i, z, hi, h3, h4, hz, formB_eq h5⟩
    · cases h5
  · cases h1

theorem lookT_mem {T : TypeId} {p : Ty × Nat} : {l : Tys} → lookT l T = some p → (T, p) ∈ l
  | [], h => by cases h
  | (k, t) :: l, h => by
    simp only [lookT] at h
    cases hk : k == T with
    | true =>
      rw [hk] at h
      injection h with h
      rw [beq_iff_eq] at hk
      subst h hk
      simp
    | false =>
      rw [hk] at h
      exact List.mem_cons_of_mem _ (lookT_mem h)

theorem ctx_ok {P : Program} {tys : Tys} (h : tys.all (fun p => tyB P (mkCtx tys) p.1 p.2.1) = true) : CtxOk P (mkCtx tys) := by
  intro T t ht
  obtain ⟨p, hp, rfl⟩ := Option.map_eq_some_iff.1 ht
  rw [List.all_eq_true] at h
  exact tyB_ok (h _ (lookT_mem hp))

end Go.Proofs.Ytdfcejijcnhcaaa.C.Am
