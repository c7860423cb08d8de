/- For every input the law FnExactViewAfterAdd returns true,and each argument reads afterwards as it read before. No conditions. -/
import Derived.Test.YthfgcmoipebheaaGreatPPlainu
import Derived.Test.YthfgcmoipebheaaGreatRows
import Derived.WalkKit
import Derived.ProofKit
import Derived.OpenShut
set_option linter.unusedVariables false
namespace Go.Proofs.YthfgcmoipebheaaGreat.P.Row5
open Go.ChangeShapes Go.WideShapes Go.ChangeAt Go.RowKit Am It
theorem own:ownKnob Tryz.prog.godebug=none:=by kernel_rfl
noncomputable def al:(dn [(jr,.ro),(nX,.ro),(ah,.ro)]).den->Option (Ty.pair (cX [(.bool,0)]) (cD [(jr,.ro),(nX,.ro),(ah,.ro)])).den:=λx=>Ia x.1 x.2.1 x.2.2.1
theorem acR:Fm=⟨[(jr,.ro),(nX,.ro),(ah,.ro)],[(.bool,0)],al⟩:=by kernel_rfl
theorem aq5:an Tryz.prog 5 ⟨[(jr,.ro),(nX,.ro),(ah,.ro)],[(.bool,0)],al⟩:=acR▸aeD
theorem aq6:∀x,cF (dn [(jr,.ro),(nX,.ro),(ah,.ro)]) x->∃m,al x=some ((true,()),m):=by
 intro x hx;obtain⟨a1,a2,a3,u⟩:=x;exact⟨(),apI a1 a2 a3 hx.1 hx.2.1⟩
set_option maxRecDepth 100000 in
theorem lifted(os:Os)(started:os.Started)(H:Type)(enc:TypeId×Value->H):
  ReturnsInHanded {} Tryz.checked os 5 .any (Rows.fnExactViewAfterAddSpec.pre6 enc Tryz.prog Tryz.f5 Rows.fnExactViewAfterAddRow.domain false) (Rows.fnExactViewAfterAddSpec.post enc Tryz.prog Tryz.f5 false true false false):=by
 refine returnsInHanded_of_change (C:=Tryz.checked) own started (by kernel_rfl) Tryz.func5
  (ChangeSpec.witness6 (enc:=enc) (C:=Tryz.checked) false ⟨#[],#[(Value.slice none 0 0),(Value.agg #[Value.slice none 0 0,Value.slice none 0 0]),(Value.int IntKind.i64 0)],[]⟩ 60 (by kernel_rfl) (by kernel_rfl) (by kernel_rfl) (by kernel_rfl)) ?_
 intro W base args ds gs before ee hW _ _;exact apK Nz aq5 aq6 (λ_=>trivial) (by kernel_rfl) rfl (λds iv=>by
  match ds,iv with
  | [d1,d2,d3],_=>rfl) (B:=4) (by kernel_rfl) Tryz.underlying4 W base args ds gs before ee hW
theorem both{a b:Bool}(h:a=true)(k:b=true):(a&&b)=true:=by rw[h,k];rfl
theorem j0:(Rows.fnExactViewAfterAddRow.wf (OpenSpec.ofChange Rows.fnExactViewAfterAddSpec))=true:=by kernel_rfl
theorem j1:(laidOutB Tryz.pinned.checked.prog)=true:=by kernel_rfl
theorem j2:(mapsRowed Tryz.pinned.checked.prog)=true:=by kernel_rfl
theorem j3:(Tryz.f5.params.all (Tryz.pinned.checked.prog.readableRec ·))=true:=by kernel_rfl
theorem j4:(namedTie Tryz.pinned.checked.prog Rows.fnExactViewAfterAddRow.named Rows.fnExactViewAfterAddSpec.vars)=true:=by kernel_rfl
theorem j5:(Rows.fnExactViewAfterAddRow.stops==[])=true:=by kernel_rfl
theorem j6:(Tryz.pinned.checked.prog.stops==[])=true:=by kernel_rfl
theorem j7:(Rows.fnExactViewAfterAddRow.knobs==[])=true:=by kernel_rfl
theorem j8:(Tryz.pinned.checked.prog.stopKnobs==[])=true:=by kernel_rfl
theorem j9:(Rows.fnExactViewAfterAddRow.inPlace==Tryz.pinned.checked.prog.inPlace 5)=true:=by kernel_rfl
theorem j10:(Rows.fnExactViewAfterAddRow.unfollowed==Tryz.pinned.checked.prog.unfollowed 5)=true:=by kernel_rfl
theorem j11:(Rows.fnExactViewAfterAddRow.recurses==Tryz.pinned.checked.prog.recurses 5)=true:=by kernel_rfl
theorem j12:(Rows.fnExactViewAfterAddRow.named==Tryz.pinned.checked.prog.varsNamed 5)=true:=by kernel_rfl
theorem j13:(Rows.fnExactViewAfterAddRow.maps==(Tryz.f5.params.toList++Rows.fnExactViewAfterAddSpec.plain.varTypes Tryz.pinned.checked.prog).any (Tryz.pinned.checked.prog.mapsRec ·))=true:=by kernel_rfl
theorem j14:(Rows.fnExactViewAfterAddRow.ifaces==(Tryz.f5.params.toList++Rows.fnExactViewAfterAddSpec.plain.varTypes Tryz.pinned.checked.prog).any (Tryz.pinned.checked.prog.ifacesRec ·))=true:=by kernel_rfl
theorem j15:(Rows.fnExactViewAfterAddRow.mapsOut==Tryz.pinned.checked.prog.mapsAmong Tryz.f5.resultTypes.toList)=true:=by kernel_rfl
theorem j16:(Rows.fnExactViewAfterAddRow.loops==(Tryz.f5.params.toList++Rows.fnExactViewAfterAddSpec.plain.varTypes Tryz.pinned.checked.prog).any (Tryz.pinned.checked.prog.loopsFrom ·))=true:=by kernel_rfl
theorem j17:(Rows.fnExactViewAfterAddRow.wideKeys==(Tryz.f5.params.toList++Rows.fnExactViewAfterAddSpec.plain.varTypes Tryz.pinned.checked.prog++Tryz.f5.resultTypes.toList).any (Tryz.pinned.checked.prog.wideKeysFrom ·))=true:=by kernel_rfl
theorem j18:(Rows.fnExactViewAfterAddSpec.vars.all (Tryz.pinned.checked.prog.varReadable ·))=true:=by kernel_rfl
theorem j19:(Tryz.f5.resultTypes.all (λt=>Tryz.pinned.checked.prog.readableRec t&&decide (t<Tryz.pinned.checked.prog.types.size)))=true:=by kernel_rfl
theorem j20:(Rows.fnExactViewAfterAddRow.ifacesOut==Tryz.f5.resultTypes.toList.any (Tryz.pinned.checked.prog.ifacesRec ·))=true:=by kernel_rfl
theorem j21:(Rows.fnExactViewAfterAddRow.loopsOut==Tryz.f5.resultTypes.toList.any (Tryz.pinned.checked.prog.loopsFrom ·))=true:=by kernel_rfl
theorem j22:(Rows.fnExactViewAfterAddRow.plainKeys==Tryz.pinned.checked.prog.plainKeys)=true:=by kernel_rfl
theorem j23:(Rows.fnExactViewAfterAddRow.shortTexts.isNone)=true:=by kernel_rfl
theorem j24:(Tryz.pinned.checked.prog.stopsHeard)=true:=by kernel_rfl
theorem j25:(Tryz.pinned.checked.prog.mayEnter)=true:=by kernel_rfl
theorem j26:(Rows.fnExactViewAfterAddRow.lifted==Tryz.pinned.checked.prog.liftsFinal)=true:=by kernel_rfl
theorem j27:(Tryz.pinned.checked.prog.make==some Rows.fnExactViewAfterAddRow.make)=true:=by kernel_rfl
theorem j29:(Rows.fnExactViewAfterAddRow.pinned==Rows.fnExactViewAfterAddRow.pinnedBy)=true:=by kernel_rfl
theorem j30:(Rows.fnExactViewAfterAddRow.veiled==(Tryz.f5.params.toList++Rows.fnExactViewAfterAddSpec.plain.varTypes Tryz.pinned.checked.prog++Tryz.f5.resultTypes.toList).any (Tryz.pinned.checked.prog.veiledRec ·))=true:=by kernel_rfl
theorem j31:(Rows.fnExactViewAfterAddRow.veiledFits Tryz.pinned.checked.prog Tryz.f5.params.toList (Tryz.f5.params.toList++Rows.fnExactViewAfterAddSpec.plain.varTypes Tryz.pinned.checked.prog++Tryz.f5.resultTypes.toList))=true:=by kernel_rfl
theorem closed:joinedFacts Tryz.pinned.checked.prog 5 Tryz.f5 Rows.fnExactViewAfterAddSpec Rows.fnExactViewAfterAddRow=true:=by
 unfold joinedFacts;refine (both (both (both (both (both (both (both (both (both (both (both (both (both (both (both (both (both (both (both (both (both (both (both (both (both (both (both (both (both (both (both j0 j1) j2) j3) j4) j5) j6) j7) j8) j9) j10) j11) j12) j13) j14) j15) j16) j17) j18) j19) j20) j21) j22) j23) j24) j25) j26) j27) ?_) j29) j30) j31);kernel_rfl
theorem eR:Rows.fnExactViewAfterAddRow.holds Tryz.pinned (OpenSpec.ofChange Rows.fnExactViewAfterAddSpec):=
 OpenClaim.holds_of_wide 5 Tryz.f5 rfl rfl rfl rfl rfl rfl rfl ⟨rfl,rfl,rfl,rfl,rfl⟩ rfl rfl rfl rfl rfl (by kernel_rfl) Tryz.func5 closed
  (of_decide_eq_true (by kernel_rfl)) (by unfold Func.isWrapper;first|(rw[if_pos (by decide +kernel)];kernel_rfl)|(rw[if_neg (by decide +kernel)];exact⟨rfl,rfl⟩))
  (λos started H enc _=>lifted os started H enc)
end Go.Proofs.YthfgcmoipebheaaGreat.P.Row5
namespace Go.Proofs.YthfgcmoipebheaaGreat
theorem viewAfterAdd_holds:Rows.FnExactViewAfterAddSaid:=P.Row5.eR
#print axioms viewAfterAdd_holds
end Go.Proofs.YthfgcmoipebheaaGreat
