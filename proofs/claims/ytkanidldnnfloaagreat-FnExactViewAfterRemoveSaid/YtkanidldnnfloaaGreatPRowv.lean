/- For every input the law FnExactViewAfterRemove returns true, and each argument reads afterwards as it read before. No conditions. -/
import Derived.Test.YtkanidldnnfloaaGreatPPlainv
import Derived.Test.YtkanidldnnfloaaGreatRows
import Derived.WalkKit
import Derived.ProofKit
import Derived.OpenShut
set_option linter.unusedVariables false
namespace Go.Proofs.YtkanidldnnfloaaGreat.P.Row4
open Go.ChangeShapes Go.WideShapes Go.ChangeAt Go.RowKit Am It

theorem own : ownKnob Tryz.prog.godebug = none := by kernel_rfl

noncomputable def sem : (pTy [(ty36, .ro), (ty40, .ro), (ty3, .ro), (ty3, .ro)]).den → Option (Ty.pair (rTy [(.bool, 0)]) (mTy [(ty36, .ro), (ty40, .ro), (ty3, .ro), (ty3, .ro)])).den := fun x => Sw_FnExactViewAfterRemove x.1 x.2.1 x.2.2.1 x.2.2.2.1
theorem F_is : Fw_FnExactViewAfterRemove = ⟨[(ty36, .ro), (ty40, .ro), (ty3, .ro), (ty3, .ro)], [(.bool, 0)], sem⟩ := by kernel_rfl
theorem sem_fn : FnOk Tryz.prog 4 ⟨[(ty36, .ro), (ty40, .ro), (ty3, .ro), (ty3, .ro)], [(.bool, 0)], sem⟩ := F_is ▸ Fw_FnExactViewAfterRemove_ok
theorem sem_ok : ∀ x, WfD (pTy [(ty36, .ro), (ty40, .ro), (ty3, .ro), (ty3, .ro)]) x → ∃ m, sem x = some ((true, ()), m) := by
  intro x hx
  obtain ⟨a1, a2, a3, a4, u⟩ := x
  exact ⟨(), law_ViewAfterRemove a1 a2 a3 a4 hx.1 hx.2.1⟩

set_option maxRecDepth 100000 in
theorem lifted (os : Os) (started : os.Started) (H : Type) (enc : TypeId × Value → H) :
    ReturnsInHanded {} Tryz.checked os 4 .any (Rows.fnExactViewAfterRemoveSpec.pre6 enc Tryz.prog Tryz.f4 Rows.fnExactViewAfterRemoveRow.domain false) (Rows.fnExactViewAfterRemoveSpec.post enc Tryz.prog Tryz.f4 false true false false) := by
  refine returnsInHanded_of_change (C := Tryz.checked) own started (by kernel_rfl) Tryz.func4
    (ChangeSpec.witness6 (enc := enc) (C := Tryz.checked) false ⟨#[], #[(Value.slice none 0 0), (Value.agg #[Value.slice none 0 0, Value.slice none 0 0]), (Value.int IntKind.i64 0), (Value.int IntKind.i64 0)], []⟩ 60 (by kernel_rfl) (by kernel_rfl) (by kernel_rfl) (by kernel_rfl)) ?_
  intro W base args ds gs before hval hW _ _
  exact law_contract C_ok sem_fn sem_ok (fun _ => trivial) (by kernel_rfl) rfl (fun ds hds => by
    match ds, hds with
    | [d1, d2, d3, d4], _ => rfl) (B := 4) (by kernel_rfl) Tryz.underlying4 W base args ds gs before hval hW

theorem over : Rows.fnExactViewAfterRemoveRow.holds Tryz.pinned (OpenSpec.ofChange Rows.fnExactViewAfterRemoveSpec) :=
  OpenClaim.holds_of_wide 4 Tryz.f4 rfl rfl rfl rfl rfl rfl rfl ⟨rfl, rfl, rfl, rfl, rfl⟩ rfl rfl rfl rfl rfl (by kernel_rfl) Tryz.func4 (by kernel_rfl)
    (of_decide_eq_true (by kernel_rfl)) (by unfold Func.isWrapper; first | (rw [if_pos (by decide +kernel)]; kernel_rfl) | (rw [if_neg (by decide +kernel)]; exact ⟨rfl, rfl⟩))
    (fun os started H enc _ => lifted os started H enc)
end Go.Proofs.YtkanidldnnfloaaGreat.P.Row4
namespace Go.Proofs.YtkanidldnnfloaaGreat
theorem viewAfterRemove_holds : Rows.FnExactViewAfterRemoveSaid := P.Row4.over
#print axioms viewAfterRemove_holds
end Go.Proofs.YtkanidldnnfloaaGreat
