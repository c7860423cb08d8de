/- A part of the proof: Am36. No conditions. -/
import Derived.Test.YtdfcejijcnhcaaaCAm35
set_option linter.unusedVariables false
namespace Go.Proofs.Ytdfcejijcnhcaaa.C.Am

/-! ## 36. Loops by their place in the code -/
/-- One turn of a loop. -/
noncomputable def turnB (E : Env) {R : Type} (c : Code) (k : Ex → List V → Option R) (self : List V → Option R) (T : List V) : Option R := denK E c (fun e T' => match e with
  | .nrm => keepK (E.keep (loopKey c)) T' self
  | .ext i => k (.ext i) T'
  | .ret => k .ret T') T

/-- The code at a place, and what follows it. -/
noncomputable def contAt (E : Env) {R : Type} : List Nat → Code → (Ex → List V → Option R) → Code × (Ex → List V → Option R)
  | [], c, k => (c, k)
  | 0 :: p, .seq a b, k => contAt E p a (fun e T' => match e with
    | .nrm => denK E b k T'
    | .ext i => k (.ext i) T'
    | .ret => k .ret T')
  | 1 :: p, .seq a b, k => contAt E p b k
  | 0 :: p, .cond _ a b, k => contAt E p a k
  | 1 :: p, .cond _ a b, k => contAt E p b k
  | 0 :: p, .block id c, k => contAt E p c (fun e T' => match e with
    | .nrm => k .nrm T'
    | .ext i => cond (i == id) (k .nrm T') (k (.ext i) T')
    | .ret => k .ret T')
  | 0 :: p, .loop c, k => contAt E p c (fun e T' => match e with
    | .nrm => keepK (E.keep (loopKey c)) T' (fixO (turnB E c k))
    | .ext i => k (.ext i) T'
    | .ret => k .ret T')
  | _, c, k => (.skip, k)

noncomputable def loopAt (E : Env) {R : Type} (p : List Nat) (c : Code) (k : Ex → List V → Option R) (T : List V) : Option R :=
  match contAt E p c k with
  | (.loop c', k') => fixO (turnB E c' k') T
  | _ => none

/-- One turn of the loop at a place. -/
noncomputable def turnAt (E : Env) {R : Type} (p : List Nat) (c : Code) (k : Ex → List V → Option R) (T : List V) : Option R :=
  match contAt E p c k with
  | (.loop c', k') => turnB E c' k' (fixO (turnB E c' k')) T
  | _ => none

theorem loopAt_eq {R : Type} (E : Env) (p : List Nat) (c : Code) (k : Ex → List V → Option R) (T : List V) : loopAt E p c k T = turnAt E p c k T := by
  unfold loopAt turnAt
  split
  · exact fixO_eq (turn_tail _) T
  · rfl

theorem loop_eq {E : Env} {R : Type} {c : Code} {k : Ex → List V → Option R} (T : List V) : fixO (turnB E c k) T = turnB E c k (fixO (turnB E c k)) T := fixO_eq (turn_tail k) T

end Go.Proofs.Ytdfcejijcnhcaaa.C.Am
