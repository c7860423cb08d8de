/- For every input the law FnExactNewHouse returns true, and each argument reads afterwards as it read before. No conditions. -/
import Derived.Test.YtjccadhifgkdbaaPPlaine
import Derived.Test.YtjccadhifgkdbaaRows
import Derived.WalkKit
import Derived.ProofKit
import Derived.OpenShut
set_option linter.unusedVariables false
namespace Go.Proofs.Ytjccadhifgkdbaa.P.Row6
open Go.ChangeShapes Go.WideShapes Go.ChangeAt Go.RowKit Am It

theorem own : ownKnob Try.prog.godebug = none := by kernel_rfl

noncomputable def sem : (pTy []).den → Option (Ty.pair (rTy [(.bool, 0)]) (mTy [])).den := fun x => Sw_FnExactNewHouse 
theorem F_is : Fw_FnExactNewHouse = ⟨[], [(.bool, 0)], sem⟩ := by kernel_rfl
theorem sem_fn : FnOk Try.prog 6 ⟨[], [(.bool, 0)], sem⟩ := F_is ▸ Fw_FnExactNewHouse_ok
theorem sem_ok : ∀ x, WfD (pTy []) x → ∃ m, sem x = some ((true, ()), m) := by
  intro x hx
  cases x
  exact ⟨(), law_NewHouse⟩

set_option maxRecDepth 100000 in
theorem lifted (os : Os) (started : os.Started) (H : Type) (enc : TypeId × Value → H) :
    ReturnsInHanded {} Try.checked os 6 .any (Rows.fnExactNewHouseSpec.pre6 enc Try.prog Try.f6 Rows.fnExactNewHouseRow.domain false) (Rows.fnExactNewHouseSpec.post enc Try.prog Try.f6 false true false false) := by
  refine returnsInHanded_of_change (C := Try.checked) own started (by kernel_rfl) Try.func6
    (ChangeSpec.witness6 (enc := enc) (C := Try.checked) false ⟨#[], #[], []⟩ 60 (by kernel_rfl) (by kernel_rfl) (by kernel_rfl) (by kernel_rfl)) ?_
  intro W base args ds gs before hval hW _ _
  exact law_contract C_ok sem_fn sem_ok (by kernel_rfl) rfl (fun ds hds => by
    match ds, hds with
    | [], _ => rfl) (B := 4) (by kernel_rfl) Try.underlying4 W base args ds gs before hval hW

theorem over : Rows.fnExactNewHouseRow.holds Try.pinned (OpenSpec.ofChange Rows.fnExactNewHouseSpec) :=
  OpenClaim.holds_of_wide 6 Try.f6 rfl rfl rfl rfl rfl rfl rfl ⟨rfl, rfl, rfl, rfl, rfl⟩ rfl rfl rfl rfl rfl (by kernel_rfl) Try.func6 (by kernel_rfl)
    (of_decide_eq_true (by kernel_rfl)) (by unfold Func.isWrapper; first | (rw [if_pos (by decide +kernel)]; kernel_rfl) | (rw [if_neg (by decide +kernel)]; exact ⟨rfl, rfl⟩))
    (fun os started H enc _ => lifted os started H enc)
end Go.Proofs.Ytjccadhifgkdbaa.P.Row6
namespace Go.Proofs.Ytjccadhifgkdbaa
theorem newHouse_holds : Rows.FnExactNewHouseSaid := P.Row6.over
#print axioms newHouse_holds
end Go.Proofs.Ytjccadhifgkdbaa
