/- For every input the law FnCuts returns true, and each argument reads afterwards as it read before. No conditions. -/
import Derived.Test.YtkanidldnnfloaaPPlainc
import Derived.Test.YtkanidldnnfloaaRows
import Derived.WalkKit
import Derived.ProofKit
import Derived.OpenShut
set_option linter.unusedVariables false
namespace Go.Proofs.Ytkanidldnnfloaa.P.Row4
open Go.ChangeShapes Go.WideShapes Go.ChangeAt Go.RowKit Am It

theorem own : ownKnob Try.prog.godebug = none := by kernel_rfl

noncomputable def sem : (pTy [(ty22, .ro)]).den → Option (Ty.pair (rTy [(.bool, 0)]) (mTy [(ty22, .ro)])).den := fun x => Sw_FnCuts x.1
theorem F_is : Fw_FnCuts = ⟨[(ty22, .ro)], [(.bool, 0)], sem⟩ := by kernel_rfl
theorem sem_fn : FnOk Try.prog 4 ⟨[(ty22, .ro)], [(.bool, 0)], sem⟩ := F_is ▸ Fw_FnCuts_ok
theorem sem_ok : ∀ x, WfD (pTy [(ty22, .ro)]) x → ∃ m, sem x = some ((true, ()), m) := by
  intro x hx
  obtain ⟨a1, u⟩ := x
  exact ⟨(), law_Cuts a1 hx.1⟩

set_option maxRecDepth 100000 in
theorem lifted (os : Os) (started : os.Started) (H : Type) (enc : TypeId × Value → H) :
    ReturnsInHanded {} Try.checked os 4 .any (Rows.fnCutsSpec.pre6 enc Try.prog Try.f4 Rows.fnCutsRow.domain false) (Rows.fnCutsSpec.post enc Try.prog Try.f4 false true false false) := by
  refine returnsInHanded_of_change (C := Try.checked) own started (by kernel_rfl) Try.func4
    (ChangeSpec.witness6 (enc := enc) (C := Try.checked) false ⟨#[], #[(Value.slice none 0 0)], []⟩ 60 (by kernel_rfl) (by kernel_rfl) (by kernel_rfl) (by kernel_rfl)) ?_
  intro W base args ds gs before hval hW _ _
  exact law_contract C_ok sem_fn sem_ok (fun _ => trivial) (by kernel_rfl) rfl (fun ds hds => by
    match ds, hds with
    | [d1], _ => rfl) (B := 4) (by kernel_rfl) Try.underlying4 W base args ds gs before hval hW

theorem over : Rows.fnCutsRow.holds Try.pinned (OpenSpec.ofChange Rows.fnCutsSpec) :=
  OpenClaim.holds_of_wide 4 Try.f4 rfl rfl rfl rfl rfl rfl rfl ⟨rfl, rfl, rfl, rfl, rfl⟩ rfl rfl rfl rfl rfl (by kernel_rfl) Try.func4 (by kernel_rfl)
    (of_decide_eq_true (by kernel_rfl)) (by unfold Func.isWrapper; first | (rw [if_pos (by decide +kernel)]; kernel_rfl) | (rw [if_neg (by decide +kernel)]; exact ⟨rfl, rfl⟩))
    (fun os started H enc _ => lifted os started H enc)
end Go.Proofs.Ytkanidldnnfloaa.P.Row4
namespace Go.Proofs.Ytkanidldnnfloaa
theorem cuts_holds : Rows.FnCutsSaid := P.Row4.over
#print axioms cuts_holds
end Go.Proofs.Ytkanidldnnfloaa
