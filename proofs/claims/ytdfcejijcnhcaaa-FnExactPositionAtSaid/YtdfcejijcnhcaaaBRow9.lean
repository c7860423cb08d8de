/- For every input the law FnExactPositionAt returns true, and each argument reads afterwards as it read before. No conditions. -/
import Derived.Test.YtdfcejijcnhcaaaBIt7
import Derived.Test.YtdfcejijcnhcaaaRows
import Derived.WalkKit
import Derived.ProofKit
import Derived.OpenShut
set_option linter.unusedVariables false
namespace Go.Proofs.Ytdfcejijcnhcaaa.B.Row9
open Go.ChangeShapes Go.WideShapes Go.ChangeAt Go.RowKit Am It

theorem own : ownKnob Try.prog.godebug = none := by kernel_rfl

noncomputable def sem : (pTy [(ty22, .ro), (ty34, .ro)]).den → Option (Ty.pair (rTy [(.bool, 0)]) (mTy [(ty22, .ro), (ty34, .ro)])).den := fun x => S9 x.1 x.2.1
theorem F_is : F9 = ⟨[(ty22, .ro), (ty34, .ro)], [(.bool, 0)], sem⟩ := by kernel_rfl
theorem sem_fn : FnOk Try.prog 9 ⟨[(ty22, .ro), (ty34, .ro)], [(.bool, 0)], sem⟩ := F_is ▸ F9_ok
theorem sem_ok : ∀ x, WfD (pTy [(ty22, .ro), (ty34, .ro)]) x → ∃ m, sem x = some ((true, ()), m) := by
  intro x hx
  obtain ⟨a1, a2, u⟩ := x
  exact ⟨(), law9 a1 a2 hx.1.1⟩

set_option maxRecDepth 100000 in
theorem lifted (os : Os) (started : os.Started) (H : Type) (enc : TypeId × Value → H) :
    ReturnsInHanded {} Try.checked os 9 .any (Rows.fnExactPositionAtSpec.pre6 enc Try.prog Try.f9 Rows.fnExactPositionAtRow.domain false) (Rows.fnExactPositionAtSpec.post enc Try.prog Try.f9 false true false false) := by
  refine returnsInHanded_of_change (C := Try.checked) own started (by kernel_rfl) Try.func9
    (ChangeSpec.witness6 (enc := enc) (C := Try.checked) false ⟨#[], #[.slice none 0 0, .agg #[.int .i64 0, .int .i64 0]], []⟩ 60 (by kernel_rfl) (by kernel_rfl) (by kernel_rfl) (by kernel_rfl)) ?_
  intro W base args ds gs before hval hW _ _
  exact law_contract C_ok sem_fn sem_ok (by kernel_rfl) rfl (fun ds hds => by
    match ds, hds with
    | [d1, d2], _ => rfl) (B := 4) (by kernel_rfl) Try.underlying4 W base args ds gs before hval hW

theorem over : Rows.fnExactPositionAtRow.holds Try.pinned (OpenSpec.ofChange Rows.fnExactPositionAtSpec) :=
  OpenClaim.holds_of_wide 9 Try.f9 rfl rfl rfl rfl rfl rfl rfl ⟨rfl, rfl, rfl, rfl, rfl⟩ rfl rfl rfl rfl rfl (by kernel_rfl) Try.func9 (by kernel_rfl)
    (of_decide_eq_true (by kernel_rfl)) (by unfold Func.isWrapper; first | (rw [if_pos (by decide +kernel)]; kernel_rfl) | (rw [if_neg (by decide +kernel)]; exact ⟨rfl, rfl⟩))
    (fun os started H enc _ => lifted os started H enc)
end Go.Proofs.Ytdfcejijcnhcaaa.B.Row9
namespace Go.Proofs.Ytdfcejijcnhcaaa
theorem positionAt_holds : Rows.FnExactPositionAtSaid := B.Row9.over
#print axioms positionAt_holds
end Go.Proofs.Ytdfcejijcnhcaaa
