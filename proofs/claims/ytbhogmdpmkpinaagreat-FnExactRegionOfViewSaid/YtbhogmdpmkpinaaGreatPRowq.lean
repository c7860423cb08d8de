/- For every input the law FnExactRegionOfView returns true,and each argument reads afterwards as it read before. No conditions. -/
import Derived.Test.YtbhogmdpmkpinaaGreatPPlainq
import Derived.Test.YtbhogmdpmkpinaaGreatRows
import Derived.WalkKit
import Derived.ProofKit
import Derived.OpenShut
set_option linter.unusedVariables false
namespace Go.Proofs.YtbhogmdpmkpinaaGreat.P.Row7
open Go.ChangeShapes Go.WideShapes Go.ChangeAt Go.RowKit Am It
theorem own:ownKnob Tryz.prog.godebug=none:=by kernel_rfl
noncomputable def ao:(cW [(ie,.ro),(lK,.ro)]).den->Option (Ty.pair (cG [(.bool,0)]) (cm [(ie,.ro),(lK,.ro)])).den:=λx=>ET x.1 x.2.1
theorem Xh:CS=⟨[(ie,.ro),(lK,.ro)],[(.bool,0)],ao⟩:=by kernel_rfl
theorem akh:aq Tryz.prog 7 ⟨[(ie,.ro),(lK,.ro)],[(.bool,0)],ao⟩:=Xh▸YA
theorem aki:∀x,cA (cW [(ie,.ro),(lK,.ro)]) x->∃m,ao x=some ((true,()),m):=by
 intro x hx;obtain⟨a1,a2,u⟩:=x;exact⟨(),aiT a1 a2 hx.1 hx.2.1⟩
set_option maxRecDepth 100000 in
theorem lifted(os:Os)(started:os.Started)(H:Type)(enc:TypeId×Value->H):
  ReturnsInHanded {} Tryz.checked os 7 .any (Rows.fnExactRegionOfViewSpec.pre6 enc Tryz.prog Tryz.f7 Rows.fnExactRegionOfViewRow.domain false) (Rows.fnExactRegionOfViewSpec.post enc Tryz.prog Tryz.f7 false true false false):=by
 refine returnsInHanded_of_change (C:=Tryz.checked) own started (by kernel_rfl) Tryz.func7
  (ChangeSpec.witness6 (enc:=enc) (C:=Tryz.checked) false ⟨#[],#[(Value.slice none 0 0),(Value.agg #[Value.slice none 0 0,Value.slice none 0 0])],[]⟩ 60 (by kernel_rfl) (by kernel_rfl) (by kernel_rfl) (by kernel_rfl)) ?_
 intro W base args ds gs before dK hW _ _;exact aiV Kd akh aki (λ_=>trivial) (by kernel_rfl) rfl (λds gN=>by
  match ds,gN with
  | [d1,d2],_=>rfl) (B:=4) (by kernel_rfl) Tryz.underlying4 W base args ds gs before dK hW
theorem both{a b:Bool}(h:a=true)(k:b=true):(a&&b)=true:=by rw[h,k];rfl
theorem j0:(Rows.fnExactRegionOfViewRow.wf (OpenSpec.ofChange Rows.fnExactRegionOfViewSpec))=true:=by kernel_rfl
theorem j1:(laidOutB Tryz.pinned.checked.prog)=true:=by kernel_rfl
theorem j2:(mapsRowed Tryz.pinned.checked.prog)=true:=by kernel_rfl
theorem j3:(Tryz.f7.params.all (Tryz.pinned.checked.prog.readableRec ·))=true:=by kernel_rfl
theorem j4:(namedTie Tryz.pinned.checked.prog Rows.fnExactRegionOfViewRow.named Rows.fnExactRegionOfViewSpec.vars)=true:=by kernel_rfl
theorem j5:(Rows.fnExactRegionOfViewRow.stops==[])=true:=by kernel_rfl
theorem j6:(Tryz.pinned.checked.prog.stops==[])=true:=by kernel_rfl
theorem j7:(Rows.fnExactRegionOfViewRow.knobs==[])=true:=by kernel_rfl
theorem j8:(Tryz.pinned.checked.prog.stopKnobs==[])=true:=by kernel_rfl
theorem j9:(Rows.fnExactRegionOfViewRow.inPlace==Tryz.pinned.checked.prog.inPlace 7)=true:=by kernel_rfl
theorem j10:(Rows.fnExactRegionOfViewRow.unfollowed==Tryz.pinned.checked.prog.unfollowed 7)=true:=by kernel_rfl
theorem j11:(Rows.fnExactRegionOfViewRow.recurses==Tryz.pinned.checked.prog.recurses 7)=true:=by kernel_rfl
theorem j12:(Rows.fnExactRegionOfViewRow.named==Tryz.pinned.checked.prog.varsNamed 7)=true:=by kernel_rfl
theorem j13:(Rows.fnExactRegionOfViewRow.maps==(Tryz.f7.params.toList++Rows.fnExactRegionOfViewSpec.plain.varTypes Tryz.pinned.checked.prog).any (Tryz.pinned.checked.prog.mapsRec ·))=true:=by kernel_rfl
theorem j14:(Rows.fnExactRegionOfViewRow.ifaces==(Tryz.f7.params.toList++Rows.fnExactRegionOfViewSpec.plain.varTypes Tryz.pinned.checked.prog).any (Tryz.pinned.checked.prog.ifacesRec ·))=true:=by kernel_rfl
theorem j15:(Rows.fnExactRegionOfViewRow.mapsOut==Tryz.pinned.checked.prog.mapsAmong Tryz.f7.resultTypes.toList)=true:=by kernel_rfl
theorem j16:(Rows.fnExactRegionOfViewRow.loops==(Tryz.f7.params.toList++Rows.fnExactRegionOfViewSpec.plain.varTypes Tryz.pinned.checked.prog).any (Tryz.pinned.checked.prog.loopsFrom ·))=true:=by kernel_rfl
theorem j17:(Rows.fnExactRegionOfViewRow.wideKeys==(Tryz.f7.params.toList++Rows.fnExactRegionOfViewSpec.plain.varTypes Tryz.pinned.checked.prog++Tryz.f7.resultTypes.toList).any (Tryz.pinned.checked.prog.wideKeysFrom ·))=true:=by kernel_rfl
theorem j18:(Rows.fnExactRegionOfViewSpec.vars.all (Tryz.pinned.checked.prog.varReadable ·))=true:=by kernel_rfl
theorem j19:(Tryz.f7.resultTypes.all (λt=>Tryz.pinned.checked.prog.readableRec t&&decide (t<Tryz.pinned.checked.prog.types.size)))=true:=by kernel_rfl
theorem j20:(Rows.fnExactRegionOfViewRow.ifacesOut==Tryz.f7.resultTypes.toList.any (Tryz.pinned.checked.prog.ifacesRec ·))=true:=by kernel_rfl
theorem j21:(Rows.fnExactRegionOfViewRow.loopsOut==Tryz.f7.resultTypes.toList.any (Tryz.pinned.checked.prog.loopsFrom ·))=true:=by kernel_rfl
theorem j22:(Rows.fnExactRegionOfViewRow.plainKeys==Tryz.pinned.checked.prog.plainKeys)=true:=by kernel_rfl
theorem j23:(Rows.fnExactRegionOfViewRow.shortTexts.isNone)=true:=by kernel_rfl
theorem j24:(Tryz.pinned.checked.prog.stopsHeard)=true:=by kernel_rfl
theorem j25:(Tryz.pinned.checked.prog.mayEnter)=true:=by kernel_rfl
theorem j26:(Rows.fnExactRegionOfViewRow.lifted==Tryz.pinned.checked.prog.liftsFinal)=true:=by kernel_rfl
theorem j27:(Tryz.pinned.checked.prog.make==some Rows.fnExactRegionOfViewRow.make)=true:=by kernel_rfl
theorem j29:(Rows.fnExactRegionOfViewRow.pinned==Rows.fnExactRegionOfViewRow.pinnedBy)=true:=by kernel_rfl
theorem j30:(Rows.fnExactRegionOfViewRow.veiled==(Tryz.f7.params.toList++Rows.fnExactRegionOfViewSpec.plain.varTypes Tryz.pinned.checked.prog++Tryz.f7.resultTypes.toList).any (Tryz.pinned.checked.prog.veiledRec ·))=true:=by kernel_rfl
theorem j31:(Rows.fnExactRegionOfViewRow.veiledFits Tryz.pinned.checked.prog Tryz.f7.params.toList (Tryz.f7.params.toList++Rows.fnExactRegionOfViewSpec.plain.varTypes Tryz.pinned.checked.prog++Tryz.f7.resultTypes.toList))=true:=by kernel_rfl
theorem closed:joinedFacts Tryz.pinned.checked.prog 7 Tryz.f7 Rows.fnExactRegionOfViewSpec Rows.fnExactRegionOfViewRow=true:=by
 unfold joinedFacts
 refine (both (both (both (both (both (both (both (both (both (both (both (both (both (both (both (both (both (both (both (both (both (both (both (both (both (both (both (both (both (both (both j0 j1) j2) j3) j4) j5) j6) j7) j8) j9) j10) j11) j12) j13) j14) j15) j16) j17) j18) j19) j20) j21) j22) j23) j24) j25) j26) j27) ?_) j29) j30) j31)
 kernel_rfl
theorem eM:Rows.fnExactRegionOfViewRow.holds Tryz.pinned (OpenSpec.ofChange Rows.fnExactRegionOfViewSpec):=
 OpenClaim.holds_of_wide 7 Tryz.f7 rfl rfl rfl rfl rfl rfl rfl ⟨rfl,rfl,rfl,rfl,rfl⟩ rfl rfl rfl rfl rfl (by kernel_rfl) Tryz.func7 closed
  (of_decide_eq_true (by kernel_rfl)) (by unfold Func.isWrapper;first|(rw[if_pos (by decide +kernel)];kernel_rfl)|(rw[if_neg (by decide +kernel)];exact⟨rfl,rfl⟩))
  (λos started H enc _=>lifted os started H enc)
end Go.Proofs.YtbhogmdpmkpinaaGreat.P.Row7
namespace Go.Proofs.YtbhogmdpmkpinaaGreat
theorem regionOfView_holds:Rows.FnExactRegionOfViewSaid:=P.Row7.eM
#print axioms regionOfView_holds
end Go.Proofs.YtbhogmdpmkpinaaGreat
