/- For every input the law FnExactTrackRegion returns true, and each argument reads afterwards as it read before. No conditions. -/
import Derived.Test.YtkanidldnnfloaaGreatPPlaing
import Derived.Test.YtkanidldnnfloaaGreatRows
import Derived.WalkKit
import Derived.ProofKit
import Derived.OpenShut
set_option linter.unusedVariables false
namespace Go.Proofs.YtkanidldnnfloaaGreat.P.Row3
open Go.ChangeShapes Go.WideShapes Go.ChangeAt Go.RowKit Am It
theorem own:ownKnob Tryz.prog.godebug=none:=by kernel_rfl
noncomputable def sem:(pTy [(ty22,.ro)]).den→Option (Ty.pair (rTy [(.bool,0)]) (mTy [(ty22,.ro)])).den:=fun x=>Sw_FnExactTrackRegion x.1
theorem F_is:Fw_FnExactTrackRegion=⟨[(ty22,.ro)],[(.bool,0)],sem⟩:=by kernel_rfl
theorem sem_fn:FnOk Tryz.prog 3 ⟨[(ty22,.ro)],[(.bool,0)],sem⟩:=F_is▸Fw_FnExactTrackRegion_ok
theorem sem_ok:∀ x,WfD (pTy [(ty22,.ro)]) x→∃ m,sem x=some ((true,()),m):=by
 intro x hx
 obtain ⟨a1,u⟩:=x
 exact ⟨(),law_TrackRegion a1 hx.1.1⟩
set_option maxRecDepth 100000 in
theorem lifted (os:Os) (started:os.Started) (H:Type) (enc:TypeId×Value→H) :
  ReturnsInHanded {} Tryz.checked os 3 .any (Rows.fnExactTrackRegionSpec.pre6 enc Tryz.prog Tryz.f3 Rows.fnExactTrackRegionRow.domain false) (Rows.fnExactTrackRegionSpec.post enc Tryz.prog Tryz.f3 false true false false):=by
 refine returnsInHanded_of_change (C:=Tryz.checked) own started (by kernel_rfl) Tryz.func3
  (ChangeSpec.witness6 (enc:=enc) (C:=Tryz.checked) false ⟨#[],#[(Value.slice none 0 0)],[]⟩ 60 (by kernel_rfl) (by kernel_rfl) (by kernel_rfl) (by kernel_rfl)) ?_
 intro W base args ds gs before hval hW _ _
 exact law_contract C_ok sem_fn sem_ok (fun _=>trivial) (by kernel_rfl) rfl (fun ds hds=>by
  match ds,hds with
  | [d1],_=>rfl) (B:=4) (by kernel_rfl) Tryz.underlying4 W base args ds gs before hval hW
theorem over:Rows.fnExactTrackRegionRow.holds Tryz.pinned (OpenSpec.ofChange Rows.fnExactTrackRegionSpec) :=
 OpenClaim.holds_of_wide 3 Tryz.f3 rfl rfl rfl rfl rfl rfl rfl ⟨rfl,rfl,rfl,rfl,rfl⟩ rfl rfl rfl rfl rfl (by kernel_rfl) Tryz.func3 (by kernel_rfl)
  (of_decide_eq_true (by kernel_rfl)) (by unfold Func.isWrapper; first | (rw [if_pos (by decide +kernel)]; kernel_rfl) | (rw [if_neg (by decide +kernel)]; exact ⟨rfl,rfl⟩))
  (fun os started H enc _=>lifted os started H enc)
end Go.Proofs.YtkanidldnnfloaaGreat.P.Row3
namespace Go.Proofs.YtkanidldnnfloaaGreat
theorem trackRegion_holds:Rows.FnExactTrackRegionSaid:=P.Row3.over
#print axioms trackRegion_holds
end Go.Proofs.YtkanidldnnfloaaGreat
