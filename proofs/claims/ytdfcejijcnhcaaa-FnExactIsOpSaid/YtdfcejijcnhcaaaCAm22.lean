/- A part of the proof: Am22. No conditions. -/
import Derived.Test.YtdfcejijcnhcaaaCAm21
set_option linter.unusedVariables false
set_option linter.unusedSimpArgs false
namespace Go.Proofs.Ytdfcejijcnhcaaa.C.Am

/-! ## 22. Code as a function of the slots -/
inductive Ex where
  | nrm
  | ext (id : Nat)
  | ret

def keepL (ks : Nat) : Nat → List V → List V
  | _, [] => []
  | i, v :: l => (cond (ks.testBit i) v .dead) :: keepL ks (i + 1) l

/-- What is kept hangs on nothing that is given up. -/
def keepOk (ks : Nat) (T : List V) : Nat → List V → Bool
  | _, [] => true
  | i, v :: l => (!ks.testBit i || (match v.root with
    | none => true
    | some r => ks.testBit r || !(T.getD r .dead).owns)) && keepOk ks T (i + 1) l

/-- Only the named slots are kept. -/
def keepK {R : Type} (ks : Option Nat) (T : List V) (K : List V → Option R) : Option R :=
  match ks with
  | none => K T
  | some m => cond (keepOk m T 0 T) (K (keepL m 0 T)) none

structure Env where
  step : Oper → M (List (Nat × V))
  N : Nat
  /-- slots that are never written -/
  pins : Nat → Bool
  /-- which slots live at a region -/
  keep : Nat → Option Nat

def pinOk (E : Env) (o : Oper) : Bool := match o.dst with
  | some d => !E.pins d
  | none => true

def skipUps (E : Env) (o : Oper) (T : List V) : Option (List Nat × List (Nat × V)) := match o.dst with
  | none => some ([], [])
  | some d => cond ((T.getD d .dead).idle && decide (d < E.N)) (some ([d], [(d, .tup [])])) none

def opsK {R : Type} (E : Env) (ops : Array Oper) (draw : Bool) (K : List V → Option R) (T0 : List V) : List Oper → List V → List Rec → Option R
  | [], T, recs => cond (!draw || (backB 0 ops.toList && tiedB (preds ops.toList []) [] (recs.map fun r => (mask r.rd, mask r.wr)) && asksB T0 recs && decide (E.N ≤ tagK))) (K T) none
  | o :: l, T, recs => cond (pinOk E o) (match o.guard with
    | none => (E.step o).runK T [] fun log ups => opsK E ops draw K T0 l (setAll T ups) (recs ++ [(log, ups)])
    | some (j, want) => match (ops[j]?).bind (·.dst) with
      | none => none
      | some g => match T.getD g .dead with
        | .d l0 n0 .bool b => cond b
            (cond want
              ((E.step o).runK (T.set g (.d l0 n0 .bool true)) [g] fun log ups => opsK E ops draw K T0 l (setAll (T.set g (.d l0 n0 .bool true)) ups) (recs ++ [(log, ups)]))
              ((skipUps E o (T.set g (.d l0 n0 .bool true))).bind fun u => opsK E ops draw K T0 l (setAll (T.set g (.d l0 n0 .bool true)) u.2) (recs ++ [(g :: u.1, u.2)])))
            (cond want
              ((skipUps E o (T.set g (.d l0 n0 .bool false))).bind fun u => opsK E ops draw K T0 l (setAll (T.set g (.d l0 n0 .bool false)) u.2) (recs ++ [(g :: u.1, u.2)]))
              ((E.step o).runK (T.set g (.d l0 n0 .bool false)) [g] fun log ups => opsK E ops draw K T0 l (setAll (T.set g (.d l0 n0 .bool false)) ups) (recs ++ [(log, ups)])))
        | .tup [] => (skipUps E o T).bind fun u => opsK E ops draw K T0 l (setAll T u.2) (recs ++ [(g :: u.1, u.2)])
        | _ => none) none

/-! ### the least solution of a tail call -/
def iterO {α R : Type} (B : (α → Option R) → α → Option R) : Nat → α → Option R
  | 0, _ => none
  | n + 1, x => B (iterO B n) x

noncomputable def fixO {α R : Type} (B : (α → Option R) → α → Option R) (x : α) : Option R :=
  open Classical in if h : ∃ n r, iterO B n x = some r then some (Classical.choose (Classical.choose_spec h)) else none

def TailO {α R : Type} (B : (α → Option R) → α → Option R) : Prop :=
  ∀ f x r, B f x = some r → (∀ g, B g x = some r) ∨ ∃ y, f y = some r ∧ ∀ g, g y = some r → B g x = some r

theorem iterO_succ {α R : Type} {B : (α → Option R) → α → Option R} (hB : TailO B) : ∀ n x r, iterO B n x = some r → iterO B (n + 1) x = some r
  | 0, x, r, h => by cases h
  | n + 1, x, r, h => by
    simp only [iterO] at h
    rcases hB _ _ _ h with h | ⟨y, hy, h⟩
    · exact h _
    · exact h _ (iterO_succ hB n y r hy)

theorem iterO_le {α R : Type} {B : (α → Option R) → α → Option R} (hB : TailO B) {n m : Nat} (h : n ≤ m) {x : α} {r : R} (hr : iterO B n x = some r) : iterO B m x = some r := by
  induction h with
  | refl => exact hr
  | step _ ih => exact iterO_succ hB _ _ _ ih

theorem fixO_some {α R : Type} {B : (α → Option R) → α → Option R} (hB : TailO B) {x : α} {r : R} : fixO B x = some r ↔ ∃ n, iterO B n x = some r := by
  unfold fixO
  constructor
  · intro h
    split at h
    · rename_i hh
      injection h with h
      have := Classical.choose_spec (Classical.choose_spec hh)
      rw [h] at this
      exact ⟨_, this⟩
    · cases h
  · rintro ⟨n, hn⟩
    have hh : ∃ n r, iterO B n x = some r := ⟨n, r, hn⟩
    rw [dif_pos hh]
    have h1 := Classical.choose_spec (Classical.choose_spec hh)
    have h2 := iterO_le hB (Nat.le_max_left _ n) h1
    have h3 := iterO_le hB (Nat.le_max_right (Classical.choose hh) n) hn
    rw [h2] at h3
    exact h3

theorem fixO_eq {α R : Type} {B : (α → Option R) → α → Option R} (hB : TailO B) (x : α) : fixO B x = B (fixO B) x := by
  have key : ∀ r, fixO B x = some r ↔ B (fixO B) x = some r := by
    intro r
    constructor
    · intro h
      obtain ⟨n, hn⟩ := (fixO_some hB).1 h
      cases n with
      | zero => cases hn
      | succ n =>
        rcases hB _ _ _ hn with h | ⟨y, hy, h⟩
        · exact h _
        · exact h _ ((fixO_some hB).2 ⟨n, hy⟩)
    · intro h
      rcases hB _ _ _ h with h | ⟨y, hy, h⟩
      · exact (fixO_some hB).2 ⟨1, h _⟩
      · obtain ⟨n, hn⟩ := (fixO_some hB).1 hy
        exact (fixO_some hB).2 ⟨n + 1, h _ hn⟩
  cases h1 : fixO B x with
  | some r => exact ((key r).1 h1).symm
  | none =>
    cases h2 : B (fixO B) x with
    | none => rfl
    | some r => rw [(key r).2 h2] at h1; cases h1

def firstRegion : Code → Option Nat
  | .region id _ _ => some id
  | .seq a b => match firstRegion a with
    | some i => some i
    | none => firstRegion b
  | .block _ c => firstRegion c
  | .loop c => firstRegion c
  | .cond _ a _ => firstRegion a
  | _ => none

/-- The key of a loop's head in the table of living slots. -/
def loopKey (c : Code) : Nat := 1000000 + (firstRegion c).getD 0

noncomputable def denK (E : Env) {R : Type} : Code → (Ex → List V → Option R) → List V → Option R
  | .skip, k, T => k .nrm T
  | .label _, k, T => k .nrm T
  | .region id ops draw, k, T => keepK (E.keep id) T fun T => opsK E ops draw (k .nrm) T ops.toList T []
  | .seq a b, k, T => denK E a (fun e T' => match e with
    | .nrm => denK E b k T'
    | .ext i => k (.ext i) T'
    | .ret => k .ret T') T
  | .cond (.tmp t) a b, k, T => match T.getD t .dead with
    | .d l0 n0 .bool x => cond x (denK E a k (T.set t (.d l0 n0 .bool true))) (denK E b k (T.set t (.d l0 n0 .bool false)))
    | _ => none
  | .block id c, k, T => denK E c (fun e T' => match e with
    | .nrm => k .nrm T'
    | .ext i => cond (i == id) (k .nrm T') (k (.ext i) T')
    | .ret => k .ret T') T
  | .exit id, k, T => k (.ext id) T
  | .loop c, k, T => keepK (E.keep (loopKey c)) T (fixO fun self T => denK E c (fun e T' => match e with
    | .nrm => keepK (E.keep (loopKey c)) T' self
    | .ext i => k (.ext i) T'
    | .ret => k .ret T') T)
  | .ret, k, T => k .ret T
  | _, _, _ => none

/-! ### each of these ends in one call of what follows -/
theorem keepK_tail {R : Type} {ks : Option Nat} {T : List V} {K : List V → Option R} {r : R} (h : keepK ks T K = some r) : ∃ T', K T' = some r ∧ ∀ K' : List V → Option R, K' T' = some r → keepK ks T K' = some r := by
  unfold keepK at h ⊢
  cases ks with
  | none => exact ⟨T, h, fun K' h => h⟩
  | some m =>
    dsimp only at h ⊢
    cases hc : keepOk m T 0 T with
    | true => rw [hc] at h; exact ⟨_, h, fun K' h => h⟩
    | false => rw [hc] at h; cases h

theorem opsK_tail {R : Type} {E : Env} {ops : Array Oper} {draw : Bool} {K : List V → Option R} {T0 : List V} {r : R} : {l : List Oper} → {T : List V} → {recs : List Rec} → opsK E ops draw K T0 l T recs = some r →
    ∃ T', K T' = some r ∧ ∀ K' : List V → Option R, K' T' = some r → opsK E ops draw K' T0 l T recs = some r
  | [], T, recs, h => by
    simp only [opsK] at h ⊢
    cases hc : (!draw || (backB 0 ops.toList && tiedB (preds ops.toList []) [] (recs.map fun r => (mask r.rd, mask r.wr)) && asksB T0 recs && decide (E.N ≤ tagK))) with
    | true => rw [hc] at h; exact ⟨T, h, fun K' h => h⟩
    | false => rw [hc] at h; cases h
  | o :: l, T, recs, h => by
    have hrun : ∀ {T1 : List V} {l0 : List Nat}, ((E.step o).runK T1 l0 fun log ups => opsK E ops draw K T0 l (setAll T1 ups) (recs ++ [(log, ups)])) = some r →
        ∃ T', K T' = some r ∧ ∀ K' : List V → Option R, K' T' = some r → ((E.step o).runK T1 l0 fun log ups => opsK E ops draw K' T0 l (setAll T1 ups) (recs ++ [(log, ups)])) = some r := by
      intro T1 l0 h
      obtain ⟨ups, log, h1, h2⟩ := M.runK_some h
      obtain ⟨T', h3, h4⟩ := opsK_tail h2
      exact ⟨T', h3, fun K' hK => M.runK_of h1 (h4 K' hK)⟩
    have hskip : ∀ {T1 : List V} {g : Nat}, ((skipUps E o T1).bind fun u => opsK E ops draw K T0 l (setAll T1 u.2) (recs ++ [(g :: u.1, u.2)])) = some r →
        ∃ T', K T' = some r ∧ ∀ K' : List V → Option R, K' T' = some r → ((skipUps E o T1).bind fun u => opsK E ops draw K' T0 l (setAll T1 u.2) (recs ++ [(g :: u.1, u.2)])) = some r := by
      intro T1 g h
      obtain ⟨u, h1, h2⟩ := Option.bind_eq_some_iff.1 h
      obtain ⟨T', h3, h4⟩ := opsK_tail h2
      exact ⟨T', h3, fun K' hK => by rw [h1]; exact h4 K' hK⟩
    simp only [opsK] at h ⊢
    cases hp : pinOk E o with
    | false => rw [hp] at h; cases h
    | true =>
      rw [hp] at h
      simp only [cond_true] at h ⊢
      split at h
      · exact hrun h
      · split at h
        · cases h
        · split at h
          · rename_i j want _ _ g _ _ l0 n0 b _
            cases b with
            | true =>
              simp only [cond_true] at h ⊢
              cases want with
              | true => exact hrun h
              | false => exact hskip h
            | false =>
              simp only [cond_false] at h ⊢
              cases want with
              | true => exact hskip h
              | false => exact hrun h
          · exact hskip h
          · cases h

theorem denK_tail {R : Type} {E : Env} : {c : Code} → {k : Ex → List V → Option R} → {T : List V} → {r : R} → denK E c k T = some r →
    ∃ e T', k e T' = some r ∧ ∀ k' : Ex → List V → Option R, k' e T' = some r → denK E c k' T = some r
  | .skip, k, T, r, h => ⟨.nrm, T, h, fun k' h => h⟩
  | .label _, k, T, r, h => ⟨.nrm, T, h, fun k' h => h⟩
  | .exit id, k, T, r, h => ⟨.ext id, T, h, fun k' h => h⟩
  | .ret, k, T, r, h => ⟨.ret, T, h, fun k' h => h⟩
  | .region id ops draw, k, T, r, h => by
    simp only [denK] at h ⊢
    obtain ⟨T1, h1, h2⟩ := keepK_tail h
    obtain ⟨T', h3, h4⟩ := opsK_tail h1
    exact ⟨.nrm, T', h3, fun k' hk => h2 _ (h4 (k' .nrm) hk)⟩
  | .seq a b, k, T, r, h => by
    simp only [denK] at h ⊢
    obtain ⟨e, T1, h1, h2⟩ := denK_tail h
    cases e with
    | nrm =>
      obtain ⟨e, T', h3, h4⟩ := denK_tail h1
      exact ⟨e, T', h3, fun k' hk => h2 _ (h4 k' hk)⟩
    | ext i => exact ⟨.ext i, T1, h1, fun k' hk => h2 _ hk⟩
    | ret => exact ⟨.ret, T1, h1, fun k' hk => h2 _ hk⟩
  | .cond c a b, k, T, r, h => by
    cases c with
    | tmp t =>
      simp only [denK] at h ⊢
      split at h
      · rename_i x _
        cases x with
        | true => exact denK_tail h
        | false => exact denK_tail h
      · cases h
    | const _ => simp [denK] at h
    | func _ => simp [denK] at h
    | global _ => simp [denK] at h
  | .block id c, k, T, r, h => by
    simp only [denK] at h ⊢
    obtain ⟨e, T1, h1, h2⟩ := denK_tail h
    cases e with
    | nrm => exact ⟨.nrm, T1, h1, fun k' hk => h2 _ hk⟩
    | ext i =>
      dsimp only at h1
      cases hi : i == id with
      | true => rw [hi] at h1; exact ⟨.nrm, T1, h1, fun k' hk => h2 _ (by simp only [hi]; exact hk)⟩
      | false => rw [hi] at h1; exact ⟨.ext i, T1, h1, fun k' hk => h2 _ (by simp only [hi]; exact hk)⟩
    | ret => exact ⟨.ret, T1, h1, fun k' hk => h2 _ hk⟩
  | .loop c, k, T, r, h => by
    -- a turn of the loop, whatever follows
    have turn : ∀ (k : Ex → List V → Option R), TailO (fun (self : List V → Option R) T => denK E c (fun e T' => match e with
        | .nrm => keepK (E.keep (loopKey c)) T' self
        | .ext i => k (.ext i) T'
        | .ret => k .ret T') T) := by
      intro k f x r h
      obtain ⟨e, T1, h1, h2⟩ := denK_tail h
      cases e with
      | nrm =>
        obtain ⟨T2, h3, h4⟩ := keepK_tail h1
        exact .inr ⟨T2, h3, fun g hg => h2 _ (h4 g hg)⟩
      | ext i => exact .inl fun g => h2 _ h1
      | ret => exact .inl fun g => h2 _ h1
    simp only [denK] at h ⊢
    obtain ⟨T1, h1, h2⟩ := keepK_tail h
    obtain ⟨n, hn⟩ := (fixO_some (turn k)).1 h1
    have key : ∀ n T1, iterO (fun (self : List V → Option R) T => denK E c (fun e T' => match e with
        | .nrm => keepK (E.keep (loopKey c)) T' self
        | .ext i => k (.ext i) T'
        | .ret => k .ret T') T) n T1 = some r → ∃ e T', k e T' = some r ∧ ∀ k' : Ex → List V → Option R, k' e T' = some r → iterO (fun (self : List V → Option R) T => denK E c (fun e T' => match e with
        | .nrm => keepK (E.keep (loopKey c)) T' self
        | .ext i => k' (.ext i) T'
        | .ret => k' .ret T') T) n T1 = some r := by
      intro n
      induction n with
      | zero => intro T1 h; cases h
      | succ n ih =>
        intro T1 h
        simp only [iterO] at h ⊢
        obtain ⟨e, T2, h3, h4⟩ := denK_tail h
        cases e with
        | nrm =>
          obtain ⟨T3, h5, h6⟩ := keepK_tail h3
          obtain ⟨e, T', h7, h8⟩ := ih T3 h5
          exact ⟨e, T', h7, fun k' hk => h4 _ (h6 _ (h8 k' hk))⟩
        | ext i => exact ⟨.ext i, T2, h3, fun k' hk => h4 _ hk⟩
        | ret => exact ⟨.ret, T2, h3, fun k' hk => h4 _ hk⟩
    obtain ⟨e, T', h3, h4⟩ := key n T1 hn
    exact ⟨e, T', h3, fun k' hk => h2 _ ((fixO_some (turn k')).2 ⟨n, h4 k' hk⟩)⟩
  | .rangeFunc .., k, T, r, h => by simp [denK] at h
  | .scope _, k, T, r, h => by simp [denK] at h
  | .goto _, k, T, r, h => by simp [denK] at h
  | .refuse _, k, T, r, h => by simp [denK] at h

theorem turn_tail {R : Type} {E : Env} {c : Code} (k : Ex → List V → Option R) : TailO (fun (self : List V → Option R) T => denK E c (fun e T' => match e with
    | .nrm => keepK (E.keep (loopKey c)) T' self
    | .ext i => k (.ext i) T'
    | .ret => k .ret T') T) := by
  intro f x r h
  obtain ⟨e, T1, h1, h2⟩ := denK_tail h
  cases e with
  | nrm =>
    obtain ⟨T2, h3, h4⟩ := keepK_tail h1
    exact .inr ⟨T2, h3, fun g hg => h2 _ (h4 g hg)⟩
  | ext i => exact .inl fun g => h2 _ h1
  | ret => exact .inl fun g => h2 _ h1

end Go.Proofs.Ytdfcejijcnhcaaa.C.Am
