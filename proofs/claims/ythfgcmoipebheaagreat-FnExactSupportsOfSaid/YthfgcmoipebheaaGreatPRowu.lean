/- For every input the law FnExactSupportsOf returns true,and each argument reads afterwards as it read before. No conditions. -/
import Derived.Test.YthfgcmoipebheaaGreatPPlainu
import Derived.Test.YthfgcmoipebheaaGreatRows
import Derived.WalkKit
import Derived.ProofKit
import Derived.OpenShut
set_option linter.unusedVariables false
namespace Go.Proofs.YthfgcmoipebheaaGreat.P.Row3
open Go.ChangeShapes Go.WideShapes Go.ChangeAt Go.RowKit Am It
theorem own:ownKnob Tryz.prog.godebug=none:=by kernel_rfl
noncomputable def ao:(cX [(iZ,.ro),(gO,.ro)]).den->Option (Ty.pair (cL [(.bool,0)]) (cu [(iZ,.ro),(gO,.ro)])).den:=λx=>FN x.1 x.2.1
theorem YA:Du=⟨[(iZ,.ro),(gO,.ro)],[(.bool,0)],ao⟩:=by kernel_rfl
theorem alf:aq Tryz.prog 3 ⟨[(iZ,.ro),(gO,.ro)],[(.bool,0)],ao⟩:=YA▸Z5
theorem alg:∀x,dh (cX [(iZ,.ro),(gO,.ro)]) x->∃m,ao x=some ((true,()),m):=by
 intro x hx;obtain⟨a1,a2,u⟩:=x;exact⟨(),ajS a1 a2 hx.1 hx.2.1⟩
set_option maxRecDepth 100000 in
theorem lifted(os:Os)(started:os.Started)(H:Type)(enc:TypeId×Value->H):
  ReturnsInHanded {} Tryz.checked os 3 .any (Rows.fnExactSupportsOfSpec.pre6 enc Tryz.prog Tryz.f3 Rows.fnExactSupportsOfRow.domain false) (Rows.fnExactSupportsOfSpec.post enc Tryz.prog Tryz.f3 false true false false):=by
 refine returnsInHanded_of_change (C:=Tryz.checked) own started (by kernel_rfl) Tryz.func3
  (ChangeSpec.witness6 (enc:=enc) (C:=Tryz.checked) false ⟨#[],#[(Value.slice none 0 0),(Value.slice none 0 0)],[]⟩ 60 (by kernel_rfl) (by kernel_rfl) (by kernel_rfl) (by kernel_rfl)) ?_
 intro W base args ds gs before dO hW _ _;exact ajU KP alf alg (λ_=>trivial) (by kernel_rfl) rfl (λds gY=>by
  match ds,gY with
  | [d1,d2],_=>rfl) (B:=4) (by kernel_rfl) Tryz.underlying4 W base args ds gs before dO hW
theorem both{a b:Bool}(h:a=true)(k:b=true):(a&&b)=true:=by rw[h,k];rfl
theorem j0:(Rows.fnExactSupportsOfRow.wf (OpenSpec.ofChange Rows.fnExactSupportsOfSpec))=true:=by kernel_rfl
theorem j1:(laidOutB Tryz.pinned.checked.prog)=true:=by kernel_rfl
theorem j2:(mapsRowed Tryz.pinned.checked.prog)=true:=by kernel_rfl
theorem j3:(Tryz.f3.params.all (Tryz.pinned.checked.prog.readableRec ·))=true:=by kernel_rfl
theorem j4:(namedTie Tryz.pinned.checked.prog Rows.fnExactSupportsOfRow.named Rows.fnExactSupportsOfSpec.vars)=true:=by kernel_rfl
theorem j5:(Rows.fnExactSupportsOfRow.stops==[])=true:=by kernel_rfl
theorem j6:(Tryz.pinned.checked.prog.stops==[])=true:=by kernel_rfl
theorem j7:(Rows.fnExactSupportsOfRow.knobs==[])=true:=by kernel_rfl
theorem j8:(Tryz.pinned.checked.prog.stopKnobs==[])=true:=by kernel_rfl
theorem j9:(Rows.fnExactSupportsOfRow.inPlace==Tryz.pinned.checked.prog.inPlace 3)=true:=by kernel_rfl
theorem j10:(Rows.fnExactSupportsOfRow.unfollowed==Tryz.pinned.checked.prog.unfollowed 3)=true:=by kernel_rfl
theorem j11:(Rows.fnExactSupportsOfRow.recurses==Tryz.pinned.checked.prog.recurses 3)=true:=by kernel_rfl
theorem j12:(Rows.fnExactSupportsOfRow.named==Tryz.pinned.checked.prog.varsNamed 3)=true:=by kernel_rfl
theorem j13:(Rows.fnExactSupportsOfRow.maps==(Tryz.f3.params.toList++Rows.fnExactSupportsOfSpec.plain.varTypes Tryz.pinned.checked.prog).any (Tryz.pinned.checked.prog.mapsRec ·))=true:=by kernel_rfl
theorem j14:(Rows.fnExactSupportsOfRow.ifaces==(Tryz.f3.params.toList++Rows.fnExactSupportsOfSpec.plain.varTypes Tryz.pinned.checked.prog).any (Tryz.pinned.checked.prog.ifacesRec ·))=true:=by kernel_rfl
theorem j15:(Rows.fnExactSupportsOfRow.mapsOut==Tryz.pinned.checked.prog.mapsAmong Tryz.f3.resultTypes.toList)=true:=by kernel_rfl
theorem j16:(Rows.fnExactSupportsOfRow.loops==(Tryz.f3.params.toList++Rows.fnExactSupportsOfSpec.plain.varTypes Tryz.pinned.checked.prog).any (Tryz.pinned.checked.prog.loopsFrom ·))=true:=by kernel_rfl
theorem j17:(Rows.fnExactSupportsOfRow.wideKeys==(Tryz.f3.params.toList++Rows.fnExactSupportsOfSpec.plain.varTypes Tryz.pinned.checked.prog++Tryz.f3.resultTypes.toList).any (Tryz.pinned.checked.prog.wideKeysFrom ·))=true:=by kernel_rfl
theorem j18:(Rows.fnExactSupportsOfSpec.vars.all (Tryz.pinned.checked.prog.varReadable ·))=true:=by kernel_rfl
theorem j19:(Tryz.f3.resultTypes.all (λt=>Tryz.pinned.checked.prog.readableRec t&&decide (t<Tryz.pinned.checked.prog.types.size)))=true:=by kernel_rfl
theorem j20:(Rows.fnExactSupportsOfRow.ifacesOut==Tryz.f3.resultTypes.toList.any (Tryz.pinned.checked.prog.ifacesRec ·))=true:=by kernel_rfl
theorem j21:(Rows.fnExactSupportsOfRow.loopsOut==Tryz.f3.resultTypes.toList.any (Tryz.pinned.checked.prog.loopsFrom ·))=true:=by kernel_rfl
theorem j22:(Rows.fnExactSupportsOfRow.plainKeys==Tryz.pinned.checked.prog.plainKeys)=true:=by kernel_rfl
theorem j23:(Rows.fnExactSupportsOfRow.shortTexts.isNone)=true:=by kernel_rfl
theorem j24:(Tryz.pinned.checked.prog.stopsHeard)=true:=by kernel_rfl
theorem j25:(Tryz.pinned.checked.prog.mayEnter)=true:=by kernel_rfl
theorem j26:(Rows.fnExactSupportsOfRow.lifted==Tryz.pinned.checked.prog.liftsFinal)=true:=by kernel_rfl
theorem j27:(Tryz.pinned.checked.prog.make==some Rows.fnExactSupportsOfRow.make)=true:=by kernel_rfl
theorem j29:(Rows.fnExactSupportsOfRow.pinned==Rows.fnExactSupportsOfRow.pinnedBy)=true:=by kernel_rfl
theorem j30:(Rows.fnExactSupportsOfRow.veiled==(Tryz.f3.params.toList++Rows.fnExactSupportsOfSpec.plain.varTypes Tryz.pinned.checked.prog++Tryz.f3.resultTypes.toList).any (Tryz.pinned.checked.prog.veiledRec ·))=true:=by kernel_rfl
theorem j31:(Rows.fnExactSupportsOfRow.veiledFits Tryz.pinned.checked.prog Tryz.f3.params.toList (Tryz.f3.params.toList++Rows.fnExactSupportsOfSpec.plain.varTypes Tryz.pinned.checked.prog++Tryz.f3.resultTypes.toList))=true:=by kernel_rfl
theorem closed:joinedFacts Tryz.pinned.checked.prog 3 Tryz.f3 Rows.fnExactSupportsOfSpec Rows.fnExactSupportsOfRow=true:=by
 unfold joinedFacts;refine (both (both (both (both (both (both (both (both (both (both (both (both (both (both (both (both (both (both (both (both (both (both (both (both (both (both (both (both (both (both (both j0 j1) j2) j3) j4) j5) j6) j7) j8) j9) j10) j11) j12) j13) j14) j15) j16) j17) j18) j19) j20) j21) j22) j23) j24) j25) j26) j27) ?_) j29) j30) j31);kernel_rfl
theorem eC:Rows.fnExactSupportsOfRow.holds Tryz.pinned (OpenSpec.ofChange Rows.fnExactSupportsOfSpec):=
 OpenClaim.holds_of_wide 3 Tryz.f3 rfl rfl rfl rfl rfl rfl rfl ⟨rfl,rfl,rfl,rfl,rfl⟩ rfl rfl rfl rfl rfl (by kernel_rfl) Tryz.func3 closed
  (of_decide_eq_true (by kernel_rfl)) (by unfold Func.isWrapper;first|(rw[if_pos (by decide +kernel)];kernel_rfl)|(rw[if_neg (by decide +kernel)];exact⟨rfl,rfl⟩))
  (λos started H enc _=>lifted os started H enc)
end Go.Proofs.YthfgcmoipebheaaGreat.P.Row3
namespace Go.Proofs.YthfgcmoipebheaaGreat
theorem supportsOf_holds:Rows.FnExactSupportsOfSaid:=P.Row3.eC
#print axioms supportsOf_holds
end Go.Proofs.YthfgcmoipebheaaGreat
