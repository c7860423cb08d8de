/- For every input the law FnExactRuleHolds returns true,and each argument reads afterwards as it read before. No conditions. -/
import Derived.Test.YtbhogmdpmkpinaaGreatPPlainh
import Derived.Test.YtbhogmdpmkpinaaGreatRows
import Derived.WalkKit
import Derived.ProofKit
import Derived.OpenShut
set_option linter.unusedVariables false
namespace Go.Proofs.YtbhogmdpmkpinaaGreat.P.Row8
open Go.ChangeShapes Go.WideShapes Go.ChangeAt Go.RowKit Am It
theorem own:ownKnob Tryz.prog.godebug=none:=by kernel_rfl
noncomputable def ao:(dh [(ja,.ro),(gO,.ro)]).den->Option (Ty.pair (cS [(.bool,0)]) (cG [(ja,.ro),(gO,.ro)])).den:=λx=>Gc x.1 x.2.1
theorem Z4:DL=⟨[(ja,.ro),(gO,.ro)],[(.bool,0)],ao⟩:=by kernel_rfl
theorem anq:au Tryz.prog 8 ⟨[(ja,.ro),(gO,.ro)],[(.bool,0)],ao⟩:=Z4▸ab0
theorem anr:∀x,dz (dh [(ja,.ro),(gO,.ro)]) x->∃m,ao x=some ((true,()),m):=by
 intro x hx;obtain⟨a1,a2,u⟩:=x;exact⟨(),al1 a1 a2 hx.1 hx.2.1⟩
set_option maxRecDepth 100000 in
theorem lifted(os:Os)(started:os.Started)(H:Type)(enc:TypeId×Value->H):
  ReturnsInHanded {} Tryz.checked os 8 .any (Rows.fnExactRuleHoldsSpec.pre6 enc Tryz.prog Tryz.f8 Rows.fnExactRuleHoldsRow.domain false) (Rows.fnExactRuleHoldsSpec.post enc Tryz.prog Tryz.f8 false true false false):=by
 refine returnsInHanded_of_change (C:=Tryz.checked) own started (by kernel_rfl) Tryz.func8
  (ChangeSpec.witness6 (enc:=enc) (C:=Tryz.checked) false ⟨#[],#[(Value.slice none 0 0),(Value.slice none 0 0)],[]⟩ 60 (by kernel_rfl) (by kernel_rfl) (by kernel_rfl) (by kernel_rfl)) ?_
 intro W base args ds gs before ef hW _ _;exact al3 Dw anq anr (λ_=>trivial) (by kernel_rfl) rfl (λds iK=>by
  match ds,iK with
  | [d1,d2],_=>rfl) (B:=4) (by kernel_rfl) Tryz.underlying4 W base args ds gs before ef hW
theorem both{a b:Bool}(h:a=true)(k:b=true):(a&&b)=true:=by rw[h,k];rfl
theorem j0:(Rows.fnExactRuleHoldsRow.wf (OpenSpec.ofChange Rows.fnExactRuleHoldsSpec))=true:=by kernel_rfl
theorem j1:(laidOutB Tryz.pinned.checked.prog)=true:=by kernel_rfl
theorem j2:(mapsRowed Tryz.pinned.checked.prog)=true:=by kernel_rfl
theorem j3:(Tryz.f8.params.all (Tryz.pinned.checked.prog.readableRec ·))=true:=by kernel_rfl
theorem j4:(namedTie Tryz.pinned.checked.prog Rows.fnExactRuleHoldsRow.named Rows.fnExactRuleHoldsSpec.vars)=true:=by kernel_rfl
theorem j5:(Rows.fnExactRuleHoldsRow.stops==[])=true:=by kernel_rfl
theorem j6:(Tryz.pinned.checked.prog.stops==[])=true:=by kernel_rfl
theorem j7:(Rows.fnExactRuleHoldsRow.knobs==[])=true:=by kernel_rfl
theorem j8:(Tryz.pinned.checked.prog.stopKnobs==[])=true:=by kernel_rfl
theorem j9:(Rows.fnExactRuleHoldsRow.inPlace==Tryz.pinned.checked.prog.inPlace 8)=true:=by kernel_rfl
theorem j10:(Rows.fnExactRuleHoldsRow.unfollowed==Tryz.pinned.checked.prog.unfollowed 8)=true:=by kernel_rfl
theorem j11:(Rows.fnExactRuleHoldsRow.recurses==Tryz.pinned.checked.prog.recurses 8)=true:=by kernel_rfl
theorem j12:(Rows.fnExactRuleHoldsRow.named==Tryz.pinned.checked.prog.varsNamed 8)=true:=by kernel_rfl
theorem j13:(Rows.fnExactRuleHoldsRow.maps==(Tryz.f8.params.toList++Rows.fnExactRuleHoldsSpec.plain.varTypes Tryz.pinned.checked.prog).any (Tryz.pinned.checked.prog.mapsRec ·))=true:=by kernel_rfl
theorem j14:(Rows.fnExactRuleHoldsRow.ifaces==(Tryz.f8.params.toList++Rows.fnExactRuleHoldsSpec.plain.varTypes Tryz.pinned.checked.prog).any (Tryz.pinned.checked.prog.ifacesRec ·))=true:=by kernel_rfl
theorem j15:(Rows.fnExactRuleHoldsRow.mapsOut==Tryz.pinned.checked.prog.mapsAmong Tryz.f8.resultTypes.toList)=true:=by kernel_rfl
theorem j16:(Rows.fnExactRuleHoldsRow.loops==(Tryz.f8.params.toList++Rows.fnExactRuleHoldsSpec.plain.varTypes Tryz.pinned.checked.prog).any (Tryz.pinned.checked.prog.loopsFrom ·))=true:=by kernel_rfl
theorem j17:(Rows.fnExactRuleHoldsRow.wideKeys==(Tryz.f8.params.toList++Rows.fnExactRuleHoldsSpec.plain.varTypes Tryz.pinned.checked.prog++Tryz.f8.resultTypes.toList).any (Tryz.pinned.checked.prog.wideKeysFrom ·))=true:=by kernel_rfl
theorem j18:(Rows.fnExactRuleHoldsSpec.vars.all (Tryz.pinned.checked.prog.varReadable ·))=true:=by kernel_rfl
theorem j19:(Tryz.f8.resultTypes.all (λt=>Tryz.pinned.checked.prog.readableRec t&&decide (t<Tryz.pinned.checked.prog.types.size)))=true:=by kernel_rfl
theorem j20:(Rows.fnExactRuleHoldsRow.ifacesOut==Tryz.f8.resultTypes.toList.any (Tryz.pinned.checked.prog.ifacesRec ·))=true:=by kernel_rfl
theorem j21:(Rows.fnExactRuleHoldsRow.loopsOut==Tryz.f8.resultTypes.toList.any (Tryz.pinned.checked.prog.loopsFrom ·))=true:=by kernel_rfl
theorem j22:(Rows.fnExactRuleHoldsRow.plainKeys==Tryz.pinned.checked.prog.plainKeys)=true:=by kernel_rfl
theorem j23:(Rows.fnExactRuleHoldsRow.shortTexts.isNone)=true:=by kernel_rfl
theorem j24:(Tryz.pinned.checked.prog.stopsHeard)=true:=by kernel_rfl
theorem j25:(Tryz.pinned.checked.prog.mayEnter)=true:=by kernel_rfl
theorem j26:(Rows.fnExactRuleHoldsRow.lifted==Tryz.pinned.checked.prog.liftsFinal)=true:=by kernel_rfl
theorem j27:(Tryz.pinned.checked.prog.make==some Rows.fnExactRuleHoldsRow.make)=true:=by kernel_rfl
theorem j29:(Rows.fnExactRuleHoldsRow.pinned==Rows.fnExactRuleHoldsRow.pinnedBy)=true:=by kernel_rfl
theorem j30:(Rows.fnExactRuleHoldsRow.veiled==(Tryz.f8.params.toList++Rows.fnExactRuleHoldsSpec.plain.varTypes Tryz.pinned.checked.prog++Tryz.f8.resultTypes.toList).any (Tryz.pinned.checked.prog.veiledRec ·))=true:=by kernel_rfl
theorem j31:(Rows.fnExactRuleHoldsRow.veiledFits Tryz.pinned.checked.prog Tryz.f8.params.toList (Tryz.f8.params.toList++Rows.fnExactRuleHoldsSpec.plain.varTypes Tryz.pinned.checked.prog++Tryz.f8.resultTypes.toList))=true:=by kernel_rfl
theorem closed:joinedFacts Tryz.pinned.checked.prog 8 Tryz.f8 Rows.fnExactRuleHoldsSpec Rows.fnExactRuleHoldsRow=true:=by
 unfold joinedFacts;refine (both (both (both (both (both (both (both (both (both (both (both (both (both (both (both (both (both (both (both (both (both (both (both (both (both (both (both (both (both (both (both j0 j1) j2) j3) j4) j5) j6) j7) j8) j9) j10) j11) j12) j13) j14) j15) j16) j17) j18) j19) j20) j21) j22) j23) j24) j25) j26) j27) ?_) j29) j30) j31);kernel_rfl
theorem eU:Rows.fnExactRuleHoldsRow.holds Tryz.pinned (OpenSpec.ofChange Rows.fnExactRuleHoldsSpec):=
 OpenClaim.holds_of_wide 8 Tryz.f8 rfl rfl rfl rfl rfl rfl rfl ⟨rfl,rfl,rfl,rfl,rfl⟩ rfl rfl rfl rfl rfl (by kernel_rfl) Tryz.func8 closed
  (of_decide_eq_true (by kernel_rfl)) (by unfold Func.isWrapper;first|(rw[if_pos (by decide +kernel)];kernel_rfl)|(rw[if_neg (by decide +kernel)];exact⟨rfl,rfl⟩))
  (λos started H enc _=>lifted os started H enc)
end Go.Proofs.YtbhogmdpmkpinaaGreat.P.Row8
namespace Go.Proofs.YtbhogmdpmkpinaaGreat
theorem ruleHolds_holds:Rows.FnExactRuleHoldsSaid:=P.Row8.eU
#print axioms ruleHolds_holds
end Go.Proofs.YtbhogmdpmkpinaaGreat
