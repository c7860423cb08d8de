/- For every input the law FnExactCutTrack returns true, and each argument reads afterwards as it read before. No conditions. -/
import Derived.Test.YtdfcejijcnhcaaaBIt8
import Derived.Test.YtdfcejijcnhcaaaRows
import Derived.WalkKit
import Derived.ProofKit
import Derived.OpenShut
set_option linter.unusedVariables false
namespace Go.Proofs.Ytdfcejijcnhcaaa.B.Row10
open Go.ChangeShapes Go.WideShapes Go.ChangeAt Go.RowKit Am It

theorem own : ownKnob Try.prog.godebug = none := by kernel_rfl

noncomputable def sem : (pTy [(ty22, .ro), (ty34, .ro), (ty34, .ro)]).den → Option (Ty.pair (rTy [(.bool, 0)]) (mTy [(ty22, .ro), (ty34, .ro), (ty34, .ro)])).den := fun x => S10 x.1 x.2.1 x.2.2.1
theorem F_is : F10 = ⟨[(ty22, .ro), (ty34, .ro), (ty34, .ro)], [(.bool, 0)], sem⟩ := by kernel_rfl
theorem sem_fn : FnOk Try.prog 10 ⟨[(ty22, .ro), (ty34, .ro), (ty34, .ro)], [(.bool, 0)], sem⟩ := F_is ▸ F10_ok
theorem sem_ok : ∀ x, WfD (pTy [(ty22, .ro), (ty34, .ro), (ty34, .ro)]) x → ∃ m, sem x = some ((true, ()), m) := by
  intro x hx
  obtain ⟨a1, a2, a3, u⟩ := x
  exact ⟨(), law10 a1 a2 a3 hx.1.1⟩

set_option maxRecDepth 100000 in
theorem lifted (os : Os) (started : os.Started) (H : Type) (enc : TypeId × Value → H) :
    ReturnsInHanded {} Try.checked os 10 .any (Rows.fnExactCutTrackSpec.pre6 enc Try.prog Try.f10 Rows.fnExactCutTrackRow.domain false) (Rows.fnExactCutTrackSpec.post enc Try.prog Try.f10 false true false false) := by
  refine returnsInHanded_of_change (C := Try.checked) own started (by kernel_rfl) Try.func10
    (ChangeSpec.witness6 (enc := enc) (C := Try.checked) false ⟨#[], #[.slice none 0 0, .agg #[.int .i64 0, .int .i64 0], .agg #[.int .i64 0, .int .i64 0]], []⟩ 60 (by kernel_rfl) (by kernel_rfl) (by kernel_rfl) (by kernel_rfl)) ?_
  intro W base args ds gs before hval hW _ _
  exact law_contract C_ok sem_fn sem_ok (by kernel_rfl) rfl (fun ds hds => by
    match ds, hds with
    | [d1, d2, d3], _ => rfl) (B := 4) (by kernel_rfl) Try.underlying4 W base args ds gs before hval hW

theorem over : Rows.fnExactCutTrackRow.holds Try.pinned (OpenSpec.ofChange Rows.fnExactCutTrackSpec) :=
  OpenClaim.holds_of_wide 10 Try.f10 rfl rfl rfl rfl rfl rfl rfl ⟨rfl, rfl, rfl, rfl, rfl⟩ rfl rfl rfl rfl rfl (by kernel_rfl) Try.func10 (by kernel_rfl)
    (of_decide_eq_true (by kernel_rfl)) (by unfold Func.isWrapper; first | (rw [if_pos (by decide +kernel)]; kernel_rfl) | (rw [if_neg (by decide +kernel)]; exact ⟨rfl, rfl⟩))
    (fun os started H enc _ => lifted os started H enc)
end Go.Proofs.Ytdfcejijcnhcaaa.B.Row10
namespace Go.Proofs.Ytdfcejijcnhcaaa
theorem cutTrack_holds : Rows.FnExactCutTrackSaid := B.Row10.over
#print axioms cutTrack_holds
end Go.Proofs.Ytdfcejijcnhcaaa
