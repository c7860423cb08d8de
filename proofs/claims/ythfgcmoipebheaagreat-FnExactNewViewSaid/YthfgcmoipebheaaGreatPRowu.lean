/- For every input the law FnExactNewView returns true,and each argument reads afterwards as it read before. No conditions. -/
import Derived.Test.YthfgcmoipebheaaGreatPPlainu
import Derived.Test.YthfgcmoipebheaaGreatRows
import Derived.WalkKit
import Derived.ProofKit
import Derived.OpenShut
set_option linter.unusedVariables false
namespace Go.Proofs.YthfgcmoipebheaaGreat.P.Row4
open Go.ChangeShapes Go.WideShapes Go.ChangeAt Go.RowKit Am It
theorem own:ownKnob Tryz.prog.godebug=none:=by kernel_rfl
noncomputable def ao:(cY [(jf,.ro),(gS,.ro)]).den->Option (Ty.pair (cL [(.bool,0)]) (ct [(jf,.ro),(gS,.ro)])).den:=λx=>Gj x.1 x.2.1
theorem Zx:DT=⟨[(jf,.ro),(gS,.ro)],[(.bool,0)],ao⟩:=by kernel_rfl
theorem amI:au Tryz.prog 4 ⟨[(jf,.ro),(gS,.ro)],[(.bool,0)],ao⟩:=Zx▸aa7
theorem amJ:∀x,cZ (cY [(jf,.ro),(gS,.ro)]) x->∃m,ao x=some ((true,()),m):=by
 intro x hx;obtain⟨a1,a2,u⟩:=x;exact⟨(),alk a1 a2 hx.1 hx.2.1⟩
set_option maxRecDepth 100000 in
theorem lifted(os:Os)(started:os.Started)(H:Type)(enc:TypeId×Value->H):
  ReturnsInHanded {} Tryz.checked os 4 .any (Rows.fnExactNewViewSpec.pre6 enc Tryz.prog Tryz.f4 Rows.fnExactNewViewRow.domain false) (Rows.fnExactNewViewSpec.post enc Tryz.prog Tryz.f4 false true false false):=by
 refine returnsInHanded_of_change (C:=Tryz.checked) own started (by kernel_rfl) Tryz.func4
  (ChangeSpec.witness6 (enc:=enc) (C:=Tryz.checked) false ⟨#[],#[(Value.slice none 0 0),(Value.slice none 0 0)],[]⟩ 60 (by kernel_rfl) (by kernel_rfl) (by kernel_rfl) (by kernel_rfl)) ?_
 intro W base args ds gs before dR hW _ _;exact aln Ls amI amJ (λ_=>trivial) (by kernel_rfl) rfl (λds hZ=>by
  match ds,hZ with
  | [d1,d2],_=>rfl) (B:=4) (by kernel_rfl) Tryz.underlying4 W base args ds gs before dR hW
theorem both{a b:Bool}(h:a=true)(k:b=true):(a&&b)=true:=by rw[h,k];rfl
theorem j0:(Rows.fnExactNewViewRow.wf (OpenSpec.ofChange Rows.fnExactNewViewSpec))=true:=by kernel_rfl
theorem j1:(laidOutB Tryz.pinned.checked.prog)=true:=by kernel_rfl
theorem j2:(mapsRowed Tryz.pinned.checked.prog)=true:=by kernel_rfl
theorem j3:(Tryz.f4.params.all (Tryz.pinned.checked.prog.readableRec ·))=true:=by kernel_rfl
theorem j4:(namedTie Tryz.pinned.checked.prog Rows.fnExactNewViewRow.named Rows.fnExactNewViewSpec.vars)=true:=by kernel_rfl
theorem j5:(Rows.fnExactNewViewRow.stops==[])=true:=by kernel_rfl
theorem j6:(Tryz.pinned.checked.prog.stops==[])=true:=by kernel_rfl
theorem j7:(Rows.fnExactNewViewRow.knobs==[])=true:=by kernel_rfl
theorem j8:(Tryz.pinned.checked.prog.stopKnobs==[])=true:=by kernel_rfl
theorem j9:(Rows.fnExactNewViewRow.inPlace==Tryz.pinned.checked.prog.inPlace 4)=true:=by kernel_rfl
theorem j10:(Rows.fnExactNewViewRow.unfollowed==Tryz.pinned.checked.prog.unfollowed 4)=true:=by kernel_rfl
theorem j11:(Rows.fnExactNewViewRow.recurses==Tryz.pinned.checked.prog.recurses 4)=true:=by kernel_rfl
theorem j12:(Rows.fnExactNewViewRow.named==Tryz.pinned.checked.prog.varsNamed 4)=true:=by kernel_rfl
theorem j13:(Rows.fnExactNewViewRow.maps==(Tryz.f4.params.toList++Rows.fnExactNewViewSpec.plain.varTypes Tryz.pinned.checked.prog).any (Tryz.pinned.checked.prog.mapsRec ·))=true:=by kernel_rfl
theorem j14:(Rows.fnExactNewViewRow.ifaces==(Tryz.f4.params.toList++Rows.fnExactNewViewSpec.plain.varTypes Tryz.pinned.checked.prog).any (Tryz.pinned.checked.prog.ifacesRec ·))=true:=by kernel_rfl
theorem j15:(Rows.fnExactNewViewRow.mapsOut==Tryz.pinned.checked.prog.mapsAmong Tryz.f4.resultTypes.toList)=true:=by kernel_rfl
theorem j16:(Rows.fnExactNewViewRow.loops==(Tryz.f4.params.toList++Rows.fnExactNewViewSpec.plain.varTypes Tryz.pinned.checked.prog).any (Tryz.pinned.checked.prog.loopsFrom ·))=true:=by kernel_rfl
theorem j17:(Rows.fnExactNewViewRow.wideKeys==(Tryz.f4.params.toList++Rows.fnExactNewViewSpec.plain.varTypes Tryz.pinned.checked.prog++Tryz.f4.resultTypes.toList).any (Tryz.pinned.checked.prog.wideKeysFrom ·))=true:=by kernel_rfl
theorem j18:(Rows.fnExactNewViewSpec.vars.all (Tryz.pinned.checked.prog.varReadable ·))=true:=by kernel_rfl
theorem j19:(Tryz.f4.resultTypes.all (λt=>Tryz.pinned.checked.prog.readableRec t&&decide (t<Tryz.pinned.checked.prog.types.size)))=true:=by kernel_rfl
theorem j20:(Rows.fnExactNewViewRow.ifacesOut==Tryz.f4.resultTypes.toList.any (Tryz.pinned.checked.prog.ifacesRec ·))=true:=by kernel_rfl
theorem j21:(Rows.fnExactNewViewRow.loopsOut==Tryz.f4.resultTypes.toList.any (Tryz.pinned.checked.prog.loopsFrom ·))=true:=by kernel_rfl
theorem j22:(Rows.fnExactNewViewRow.plainKeys==Tryz.pinned.checked.prog.plainKeys)=true:=by kernel_rfl
theorem j23:(Rows.fnExactNewViewRow.shortTexts.isNone)=true:=by kernel_rfl
theorem j24:(Tryz.pinned.checked.prog.stopsHeard)=true:=by kernel_rfl
theorem j25:(Tryz.pinned.checked.prog.mayEnter)=true:=by kernel_rfl
theorem j26:(Rows.fnExactNewViewRow.lifted==Tryz.pinned.checked.prog.liftsFinal)=true:=by kernel_rfl
theorem j27:(Tryz.pinned.checked.prog.make==some Rows.fnExactNewViewRow.make)=true:=by kernel_rfl
theorem j29:(Rows.fnExactNewViewRow.pinned==Rows.fnExactNewViewRow.pinnedBy)=true:=by kernel_rfl
theorem j30:(Rows.fnExactNewViewRow.veiled==(Tryz.f4.params.toList++Rows.fnExactNewViewSpec.plain.varTypes Tryz.pinned.checked.prog++Tryz.f4.resultTypes.toList).any (Tryz.pinned.checked.prog.veiledRec ·))=true:=by kernel_rfl
theorem j31:(Rows.fnExactNewViewRow.veiledFits Tryz.pinned.checked.prog Tryz.f4.params.toList (Tryz.f4.params.toList++Rows.fnExactNewViewSpec.plain.varTypes Tryz.pinned.checked.prog++Tryz.f4.resultTypes.toList))=true:=by kernel_rfl
theorem closed:joinedFacts Tryz.pinned.checked.prog 4 Tryz.f4 Rows.fnExactNewViewSpec Rows.fnExactNewViewRow=true:=by
 unfold joinedFacts;refine (both (both (both (both (both (both (both (both (both (both (both (both (both (both (both (both (both (both (both (both (both (both (both (both (both (both (both (both (both (both (both j0 j1) j2) j3) j4) j5) j6) j7) j8) j9) j10) j11) j12) j13) j14) j15) j16) j17) j18) j19) j20) j21) j22) j23) j24) j25) j26) j27) ?_) j29) j30) j31);kernel_rfl
theorem eE:Rows.fnExactNewViewRow.holds Tryz.pinned (OpenSpec.ofChange Rows.fnExactNewViewSpec):=
 OpenClaim.holds_of_wide 4 Tryz.f4 rfl rfl rfl rfl rfl rfl rfl ⟨rfl,rfl,rfl,rfl,rfl⟩ rfl rfl rfl rfl rfl (by kernel_rfl) Tryz.func4 closed
  (of_decide_eq_true (by kernel_rfl)) (by unfold Func.isWrapper;first|(rw[if_pos (by decide +kernel)];kernel_rfl)|(rw[if_neg (by decide +kernel)];exact⟨rfl,rfl⟩))
  (λos started H enc _=>lifted os started H enc)
end Go.Proofs.YthfgcmoipebheaaGreat.P.Row4
namespace Go.Proofs.YthfgcmoipebheaaGreat
theorem newView_holds:Rows.FnExactNewViewSaid:=P.Row4.eE
#print axioms newView_holds
end Go.Proofs.YthfgcmoipebheaaGreat
