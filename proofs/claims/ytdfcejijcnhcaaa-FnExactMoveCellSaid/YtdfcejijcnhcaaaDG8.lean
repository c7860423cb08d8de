/- A part of the proof: Am35, Am36. No conditions. -/
import Derived.Test.YtdfcejijcnhcaaaDG7
import Derived.Handed
set_option linter.unusedVariables false
set_option linter.unusedSimpArgs false
namespace Go.Proofs.Ytdfcejijcnhcaaa.D.Am
open Go.ChangeShapes Go.WideShapes

/-! ## 35. From a law's function to its row -/
section
variable {H : Type} {enc : TypeId × Value → H} {P : Program} {C : Ctx} {w w' : World}

theorem okWide_form (hC : CtxOk P C) {X : TypeId} {t : Ty} {v : Value} {base : Nat} (hX : C.ty X = some t) (hf : t.flat = true) (hok : Value.okWide P w .any base X v) : Form t v.cells.toList v := by
  have hu := (hC X t hX).und
  unfold Value.okWide at hok
  cases t with
  | agg t' =>
    obtain ⟨⟨fs, hu, _⟩, _⟩ := hu
    rw [hu] at hok
    obtain ⟨cs, rfl, _⟩ := hok
    simp [Form, Value.cells]
  | int k =>
    rw [hu] at hok
    cases v <;> simp [Cell.okWide, Cell.ok, hu] at hok
    rfl
  | bool =>
    rw [hu] at hok
    cases v <;> simp [Cell.okWide, Cell.ok, hu] at hok
    rfl
  | str =>
    rw [hu] at hok
    cases v <;> simp [Cell.okWide, Cell.ok, hu] at hok
    rfl
  | slice e te =>
    obtain ⟨hu, _⟩ := hu
    rw [hu] at hok
    cases v <;> simp [Cell.okWide, Cell.ok, hu] at hok
    rfl
  | raw z => simp [Ty.flat] at hf
  | unit => simp [Ty.flat] at hf
  | pair a b => exact hu.elim

/-- The parameters' types: read only, plain. -/
def parsB (C : Ctx) : List TypeId → List (Ty × Mode) → Bool
  | [], [] => true
  | X :: Xs, (t, .ro) :: ps => decide (C.ty X = some t) && t.flat && parsB C Xs ps
  | _, _ => false

def lawLab (w : World) : Nat → Lab := fun k => if k < w.heap.size then .stable else .free

theorem args_rep (hC : CtxOk P C) {base : Nat} : {Xs : List TypeId} → {ps : List (Ty × Mode)} → {vs : List Value} → {ds : List (DataW H)} → {p : List MemPlace} → {i : Nat} → parsB C Xs ps = true →
    (∀ (j : Nat) t v, Xs[j]? = some t → vs[j]? = some v → Value.okWide P w .any base t v) → DataW.TrodAll enc P w 0 (fun _ => true) true Xs vs ds p → ∃ x, ArgsRep w (lawLab w) i ps x vs ∧ WfD (pTy ps) x
  | [], [], vs, ds, p, i, _, _, h => by
    obtain ⟨rfl, _⟩ := trodAll_nil h
    exact ⟨(), rfl, trivial⟩
  | X :: Xs, (t, .ro) :: ps, vs, ds, p, i, hb, hok, h => by
    simp only [parsB, Bool.and_eq_true, decide_eq_true_eq] at hb
    obtain ⟨⟨hX, hf⟩, hb⟩ := hb
    obtain ⟨v, vs1, d, ds1, a, b, rfl, rfl, rfl, ⟨fuel, h1⟩, h2⟩ := trodAll_cons h
    obtain ⟨x, hx, wx⟩ := trod_good hC fuel t X _ _ hX hf h1
    obtain ⟨y, hy, wy⟩ := args_rep (i := i + 1) hC hb (fun j t v' hj hv => hok (j + 1) t v' (by simpa using hj) (by simpa using hv)) h2
    refine ⟨(x, y), ?_, wx, wy⟩
    refine ⟨v, vs1, v.cells.toList, rfl, okWide_form hC hX hf (hok 0 X v rfl rfl), Own.of_rd (Rd.move (fun k hk => ⟨?_, rfl⟩) hx), hy⟩
    have hk : k < w.heap.size := hk
    show (lawLab w) k = .stable
    unfold lawLab
    rw [if_pos hk]
  | [], _ :: _, _, _, _, _, hb, _, _ => by simp [parsB] at hb
  | _ :: _, [], _, _, _, _, hb, _, _ => by simp [parsB] at hb
  | _ :: _, (_, .mut _) :: _, _, _, _, _, hb, _, _ => by simp [parsB] at hb

theorem args_again (hC : CtxOk P C) (hH : ∀ k, k < w.heap.size → w'.heap[k]? = w.heap[k]?) {sp : Nat → Bool} : {Xs : List TypeId} → {ps : List (Ty × Mode)} → {vs : List Value} → {ds : List (DataW H)} → {p : List MemPlace} → parsB C Xs ps = true →
    DataW.TrodAll enc P w 0 (fun _ => true) true Xs vs ds p → (∀ q ∈ p, sp q.block = true) → DataW.TrodAll enc P w' 0 sp true Xs vs ds p
  | [], [], vs, ds, p, _, h, _ => by
    obtain ⟨rfl, rfl, rfl⟩ := trodAll_nil h
    exact trodAll_mk0
  | X :: Xs, (t, .ro) :: ps, vs, ds, p, hb, h, hs => by
    simp only [parsB, Bool.and_eq_true, decide_eq_true_eq] at hb
    obtain ⟨⟨hX, hf⟩, hb⟩ := hb
    obtain ⟨v, vs1, d, ds1, a, b, rfl, rfl, rfl, ⟨fuel, h1⟩, h2⟩ := trodAll_cons h
    exact ⟨a, b, ⟨fuel, trod_again hC hH fuel t X _ _ hX hf h1 (fun q hq => hs q (List.mem_append_left _ hq))⟩, args_again hC hH hb h2 (fun q hq => hs q (List.mem_append_right _ hq)), rfl⟩
  | [], _ :: _, _, _, _, hb, _, _ => by simp [parsB] at hb
  | _ :: _, [], _, _, _, hb, _, _ => by simp [parsB] at hb
  | _ :: _, (_, .mut _) :: _, _, _, _, hb, _, _ => by simp [parsB] at hb

/-- A law's call, on whatever it may be given. -/
theorem law_calls (hC : CtxOk P C) {f : FuncId} {ps : List (Ty × Mode)} {sem : (pTy ps).den → Option (Ty.pair (rTy [(.bool, 0)]) (mTy ps)).den} (hok : FnOk P f ⟨ps, [(.bool, 0)], sem⟩)
    (hsem : ∀ x, WfD (pTy ps) x → ∃ m, sem x = some ((true, ()), m)) {Xs : List TypeId} (hb : parsB C Xs ps = true) {args : Array Value} {base : Nat} {ds : List (DataW H)} {p : List MemPlace}
    (hval : ∀ (j : Nat) t v, Xs[j]? = some t → args[j]? = some v → Value.okWide P w .any base t v) (hA : DataW.TrodAll enc P w 0 (fun _ => true) true Xs args.toList ds p) :
    Calls P f args w (fun e w' => e = .returned (.bool true) ∧ w'.os = w.os ∧ w'.output = w.output ∧ w.heap.size ≤ w'.heap.size ∧ ∀ k, k < w.heap.size → w'.heap[k]? = w.heap[k]?) := by
  obtain ⟨x, hx, wx⟩ := args_rep (i := 0) hC hb (fun j t v hj hv => hval j t v hj (by simpa using hv)) hA
  obtain ⟨m, hm⟩ := hsem x wx
  have hl : Legit w (lawLab w) ps := by
    refine ⟨fun k hk => ?_, fun k k' s q h => ?_, fun k s q h => ?_⟩
    · unfold lawLab; rw [if_neg (by omega)]
    · unfold lawLab at h; split at h <;> cases h
    · unfold lawLab at h; split at h <;> cases h
  refine Calls.mono (hok.2 x _ hm w (lawLab w) args hl hx) ?_
  rintro e w' ⟨cs, L', rfl, hleft, hres, _⟩
  simp only [ResRep] at hres
  obtain ⟨c, cs', cells, rfl, h1, h2, rfl⟩ := hres
  simp only [Own] at h2
  subst h2
  have hc : c = .bool true := ((List.cons.inj h1).1).symm
  subst hc
  exact ⟨rfl, hleft.os, hleft.output, hleft.size, fun k hk => (hleft.keep k hk (.inl (by unfold lawLab; rw [if_pos hk]))).2⟩

theorem law_post {f : Func} {s : ChangeSpec} {apart fresh handsOn again : Bool} {args : Array Value} {ds gs : List (DataW H)} {before : List MemPlace} (hC : CtxOk P C) {ps : List (Ty × Mode)} (hb : parsB C f.params.toList ps = true)
    (hW : DataW.Whole enc P f.params.toList s.vars apart w args.toList ds gs before) (hvars : s.vars = []) (hs : s.fn H (ds ++ gs) = { results := [.lit (.bool true)], args := ds }) {B : TypeId} (hres : f.resultTypes = #[B]) (hB : P.underlying B = some .bool)
    (hos : w'.os = w.os) (hout : w'.output = w.output) (hH : ∀ k, k < w.heap.size → w'.heap[k]? = w.heap[k]?) : s.post enc P f apart fresh handsOn again w args (.bool true) w' := by
  have hlt := hW.lt
  have hW0 := hW
  obtain ⟨p, q, hA, hV, rfl, hz, hn⟩ := hW
  rw [hvars] at hV
  have hq : q = [] ∧ gs = [] := by
    cases gs with
    | nil => exact ⟨hV, rfl⟩
    | cons _ _ => exact hV.elim
  obtain ⟨rfl, rfl⟩ := hq
  have hread : ∀ (b : Nat) (sp : Nat → Bool) (hd : Bool), DataW.TrodAll enc P w' b sp hd f.resultTypes.toList ((Value.bool true).resultList f.resultTypes.size) (s.fn H (ds ++ [])).results [] := by
    intro b sp hd
    rw [hs, hres]
    refine ⟨[], [], ⟨1, ?_⟩, rfl, rfl⟩
    simp [DataW.trod, hB, Value.cells]
  have hargs : ∀ sp : Nat → Bool, (∀ q ∈ p, sp q.block = true) → DataW.TrodAll enc P w' 0 sp true f.params.toList args.toList (s.fn H (ds ++ [])).args p := by
    intro sp h
    rw [hs]
    exact args_again hC hH hb hA h
  have hv : ∀ sp : Nat → Bool, DataW.TrodVars enc P w' sp s.vars (s.fn H (ds ++ [])).vars [] := by
    intro sp
    rw [hs, hvars]
    rfl
  have hkb : w.keptBut w' (fun _ => False) := by
    refine ⟨hos, hout, fun i hi => ?_⟩
    rw [hH i hi]
    split
    · rename_i h1 h2
      rw [h1] at h2
      cases h2
      exact ⟨rfl, rfl, rfl, fun _ _ => rfl⟩
    · rename_i h1 h2
      rw [h1] at h2
      cases h2
      exact .inr ⟨rfl, rfl⟩
    · rfl
  refine ⟨ds, [], p ++ [], [], p, [], hW0, hread _ _ _, hargs _ (fun q hq => by simpa using hlt q (by simpa using hq)), hv _, World.keptBut_mono (fun _ h => h.elim) hkb, fun _ => ?_⟩
  refine ⟨fun j t r hj hr => ?_, _, _, ([] ++ p) ++ [], ⟨[] ++ p, [], trodAll_append (hargs _ (fun _ _ => rfl)) (hread _ _ _), hv _, rfl, fun b off hp => ?_, fun ha => ?_⟩, fun q hq _ => by simpa using hq⟩
  · rw [hres] at hj hr
    cases j with
    | zero =>
      simp [Value.resultList] at hj hr
      subst hj hr
      simp [Value.okWide, hB, Cell.okWide, Cell.ok]
    | succ j => simp at hj
  · have hp' : MemPlace.cell b off ∈ p ++ [] := by simpa using hp
    have hb' : b < w.heap.size := hlt _ hp'
    have := hz b off hp'
    unfold World.frozen? at this ⊢
    dsimp only at this ⊢
    rw [hH b hb']
    exact this
  · have := hn ha
    simpa using this

theorem trodAll_len {base : Nat} {sp : Nat → Bool} {held : Bool} : {ts : List TypeId} → {vs : List Value} → {ds : List (DataW H)} → {p : List MemPlace} → DataW.TrodAll enc P w base sp held ts vs ds p → ds.length = ts.length
  | [], _, _, _, h => by obtain ⟨_, rfl, _⟩ := trodAll_nil h; rfl
  | _ :: _, _, _, _, h => by
    obtain ⟨v, vs1, d, ds1, a, b, rfl, rfl, rfl, _, h2⟩ := trodAll_cons h
    simp [trodAll_len h2]

/-- What the row asks of the call. -/
theorem law_contract (hC : CtxOk P C) {f : FuncId} {fn : Func} {s : ChangeSpec} {apart fresh handsOn again : Bool} {ps : List (Ty × Mode)} {sem : (pTy ps).den → Option (Ty.pair (rTy [(.bool, 0)]) (mTy ps)).den}
    (hok : FnOk P f ⟨ps, [(.bool, 0)], sem⟩) (hsem : ∀ x, WfD (pTy ps) x → ∃ m, sem x = some ((true, ()), m)) (hb : parsB C fn.params.toList ps = true) (hvars : s.vars = [])
    (hs : ∀ ds : List (DataW H), ds.length = fn.params.size → s.fn H ds = { results := [.lit (.bool true)], args := ds }) {B : TypeId} (hres : fn.resultTypes = #[B]) (hB : P.underlying B = some .bool)
    (W : World) (base : Nat) (args : Array Value) (ds gs : List (DataW H)) (before : List MemPlace)
    (hval : ∀ (j : Nat) t v, fn.params[j]? = some t → args[j]? = some v → Value.okWide P W .any base t v) (hW : DataW.Whole enc P fn.params.toList s.vars apart W args.toList ds gs before) :
    Calls P f args W fun e W' => ∃ v, e = .returned v ∧ s.post enc P fn apart fresh handsOn again W args v W' := by
  have hW0 := hW
  obtain ⟨p, q, hA, hV, rfl, hz, hn⟩ := hW
  have hgs : gs = [] := by
    rw [hvars] at hV
    cases gs with
    | nil => rfl
    | cons _ _ => exact hV.elim
  refine Calls.mono (law_calls hC hok hsem hb (fun j t v hj hv => hval j t v (by simpa using hj) hv) hA) ?_
  rintro e W' ⟨rfl, h1, h2, h3, h4⟩
  refine ⟨_, rfl, law_post hC hb hW0 hvars ?_ hres hB h1 h2 h4⟩
  rw [hgs, List.append_nil]
  exact hs ds (by have := trodAll_len hA; simpa using this)

end
end Go.Proofs.Ytdfcejijcnhcaaa.D.Am

set_option linter.unusedVariables false
namespace Go.Proofs.Ytdfcejijcnhcaaa.D.Am

/-! ## 36. Loops by their place in the code -/
/-- One turn of a loop. -/
noncomputable def turnB (E : Env) {R : Type} (c : Code) (k : Ex → List V → Option R) (self : List V → Option R) (T : List V) : Option R := denK E c (fun e T' => match e with
  | .nrm => keepK (E.keep (loopKey c)) T' self
  | .ext i => k (.ext i) T'
  | .ret => k .ret T') T

/-- The code at a place, and what follows it. -/
noncomputable def contAt (E : Env) {R : Type} : List Nat → Code → (Ex → List V → Option R) → Code × (Ex → List V → Option R)
  | [], c, k => (c, k)
  | 0 :: p, .seq a b, k => contAt E p a (fun e T' => match e with
    | .nrm => denK E b k T'
    | .ext i => k (.ext i) T'
    | .ret => k .ret T')
  | 1 :: p, .seq a b, k => contAt E p b k
  | 0 :: p, .cond _ a b, k => contAt E p a k
  | 1 :: p, .cond _ a b, k => contAt E p b k
  | 0 :: p, .block id c, k => contAt E p c (fun e T' => match e with
    | .nrm => k .nrm T'
    | .ext i => cond (i == id) (k .nrm T') (k (.ext i) T')
    | .ret => k .ret T')
  | 0 :: p, .loop c, k => contAt E p c (fun e T' => match e with
    | .nrm => keepK (E.keep (loopKey c)) T' (fixO (turnB E c k))
    | .ext i => k (.ext i) T'
    | .ret => k .ret T')
  | _, c, k => (.skip, k)

noncomputable def loopAt (E : Env) {R : Type} (p : List Nat) (c : Code) (k : Ex → List V → Option R) (T : List V) : Option R :=
  match contAt E p c k with
  | (.loop c', k') => fixO (turnB E c' k') T
  | _ => none

/-- One turn of the loop at a place. -/
noncomputable def turnAt (E : Env) {R : Type} (p : List Nat) (c : Code) (k : Ex → List V → Option R) (T : List V) : Option R :=
  match contAt E p c k with
  | (.loop c', k') => turnB E c' k' (fixO (turnB E c' k')) T
  | _ => none

theorem loopAt_eq {R : Type} (E : Env) (p : List Nat) (c : Code) (k : Ex → List V → Option R) (T : List V) : loopAt E p c k T = turnAt E p c k T := by
  unfold loopAt turnAt
  split
  · exact fixO_eq (turn_tail _) T
  · rfl

theorem loop_eq {E : Env} {R : Type} {c : Code} {k : Ex → List V → Option R} (T : List V) : fixO (turnB E c k) T = turnB E c k (fixO (turnB E c k)) T := fixO_eq (turn_tail k) T

end Go.Proofs.Ytdfcejijcnhcaaa.D.Am
