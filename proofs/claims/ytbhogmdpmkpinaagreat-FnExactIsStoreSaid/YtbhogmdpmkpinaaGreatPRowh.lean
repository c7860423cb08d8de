/- For every input the law FnExactIsStore returns true,and each argument reads afterwards as it read before. No conditions. -/
import Derived.Test.YtbhogmdpmkpinaaGreatPPlainh
import Derived.Test.YtbhogmdpmkpinaaGreatRows
import Derived.WalkKit
import Derived.ProofKit
import Derived.OpenShut
set_option linter.unusedVariables false
namespace Go.Proofs.YtbhogmdpmkpinaaGreat.P.Row9
open Go.ChangeShapes Go.WideShapes Go.ChangeAt Go.RowKit Am It
theorem own:ownKnob Tryz.prog.godebug=none:=by kernel_rfl
noncomputable def an:(dj [(lL,.ro)]).den->Option (Ty.pair (cV [(.bool,0)]) (cI [(lL,.ro)])).den:=λx=>Hj x.1
theorem aco:ED=⟨[(lL,.ro)],[(.bool,0)],an⟩:=by kernel_rfl
theorem aqF:ao Tryz.prog 9 ⟨[(lL,.ro)],[(.bool,0)],an⟩:=aco▸aer
theorem aqG:∀x,cY (dj [(lL,.ro)]) x->∃m,an x=some ((true,()),m):=by
 intro x hx;obtain⟨a1,u⟩:=x;exact⟨(),apg a1 hx.1⟩
set_option maxRecDepth 100000 in
theorem lifted(os:Os)(started:os.Started)(H:Type)(enc:TypeId×Value->H):
  ReturnsInHanded {} Tryz.checked os 9 .any (Rows.fnExactIsStoreSpec.pre6 enc Tryz.prog Tryz.f9 Rows.fnExactIsStoreRow.domain false) (Rows.fnExactIsStoreSpec.post enc Tryz.prog Tryz.f9 false true false false):=by
 refine returnsInHanded_of_change (C:=Tryz.checked) own started (by kernel_rfl) Tryz.func9
  (ChangeSpec.witness6 (enc:=enc) (C:=Tryz.checked) false ⟨#[],#[(Value.agg #[Value.slice none 0 0,Value.slice none 0 0])],[]⟩ 60 (by kernel_rfl) (by kernel_rfl) (by kernel_rfl) (by kernel_rfl)) ?_
 intro W base args ds gs before ek hW _ _;exact api En aqF aqG (λ_=>trivial) (by kernel_rfl) rfl (λds iQ=>by
  match ds,iQ with
  | [d1],_=>rfl) (B:=4) (by kernel_rfl) Tryz.underlying4 W base args ds gs before ek hW
theorem both{a b:Bool}(h:a=true)(k:b=true):(a&&b)=true:=by rw[h,k];rfl
theorem j0:(Rows.fnExactIsStoreRow.wf (OpenSpec.ofChange Rows.fnExactIsStoreSpec))=true:=by kernel_rfl
theorem j1:(laidOutB Tryz.pinned.checked.prog)=true:=by kernel_rfl
theorem j2:(mapsRowed Tryz.pinned.checked.prog)=true:=by kernel_rfl
theorem j3:(Tryz.f9.params.all (Tryz.pinned.checked.prog.readableRec ·))=true:=by kernel_rfl
theorem j4:(namedTie Tryz.pinned.checked.prog Rows.fnExactIsStoreRow.named Rows.fnExactIsStoreSpec.vars)=true:=by kernel_rfl
theorem j5:(Rows.fnExactIsStoreRow.stops==[])=true:=by kernel_rfl
theorem j6:(Tryz.pinned.checked.prog.stops==[])=true:=by kernel_rfl
theorem j7:(Rows.fnExactIsStoreRow.knobs==[])=true:=by kernel_rfl
theorem j8:(Tryz.pinned.checked.prog.stopKnobs==[])=true:=by kernel_rfl
theorem j9:(Rows.fnExactIsStoreRow.inPlace==Tryz.pinned.checked.prog.inPlace 9)=true:=by kernel_rfl
theorem j10:(Rows.fnExactIsStoreRow.unfollowed==Tryz.pinned.checked.prog.unfollowed 9)=true:=by kernel_rfl
theorem j11:(Rows.fnExactIsStoreRow.recurses==Tryz.pinned.checked.prog.recurses 9)=true:=by kernel_rfl
theorem j12:(Rows.fnExactIsStoreRow.named==Tryz.pinned.checked.prog.varsNamed 9)=true:=by kernel_rfl
theorem j13:(Rows.fnExactIsStoreRow.maps==(Tryz.f9.params.toList++Rows.fnExactIsStoreSpec.plain.varTypes Tryz.pinned.checked.prog).any (Tryz.pinned.checked.prog.mapsRec ·))=true:=by kernel_rfl
theorem j14:(Rows.fnExactIsStoreRow.ifaces==(Tryz.f9.params.toList++Rows.fnExactIsStoreSpec.plain.varTypes Tryz.pinned.checked.prog).any (Tryz.pinned.checked.prog.ifacesRec ·))=true:=by kernel_rfl
theorem j15:(Rows.fnExactIsStoreRow.mapsOut==Tryz.pinned.checked.prog.mapsAmong Tryz.f9.resultTypes.toList)=true:=by kernel_rfl
theorem j16:(Rows.fnExactIsStoreRow.loops==(Tryz.f9.params.toList++Rows.fnExactIsStoreSpec.plain.varTypes Tryz.pinned.checked.prog).any (Tryz.pinned.checked.prog.loopsFrom ·))=true:=by kernel_rfl
theorem j17:(Rows.fnExactIsStoreRow.wideKeys==(Tryz.f9.params.toList++Rows.fnExactIsStoreSpec.plain.varTypes Tryz.pinned.checked.prog++Tryz.f9.resultTypes.toList).any (Tryz.pinned.checked.prog.wideKeysFrom ·))=true:=by kernel_rfl
theorem j18:(Rows.fnExactIsStoreSpec.vars.all (Tryz.pinned.checked.prog.varReadable ·))=true:=by kernel_rfl
theorem j19:(Tryz.f9.resultTypes.all (λt=>Tryz.pinned.checked.prog.readableRec t&&decide (t<Tryz.pinned.checked.prog.types.size)))=true:=by kernel_rfl
theorem j20:(Rows.fnExactIsStoreRow.ifacesOut==Tryz.f9.resultTypes.toList.any (Tryz.pinned.checked.prog.ifacesRec ·))=true:=by kernel_rfl
theorem j21:(Rows.fnExactIsStoreRow.loopsOut==Tryz.f9.resultTypes.toList.any (Tryz.pinned.checked.prog.loopsFrom ·))=true:=by kernel_rfl
theorem j22:(Rows.fnExactIsStoreRow.plainKeys==Tryz.pinned.checked.prog.plainKeys)=true:=by kernel_rfl
theorem j23:(Rows.fnExactIsStoreRow.shortTexts.isNone)=true:=by kernel_rfl
theorem j24:(Tryz.pinned.checked.prog.stopsHeard)=true:=by kernel_rfl
theorem j25:(Tryz.pinned.checked.prog.mayEnter)=true:=by kernel_rfl
theorem j26:(Rows.fnExactIsStoreRow.lifted==Tryz.pinned.checked.prog.liftsFinal)=true:=by kernel_rfl
theorem j27:(Tryz.pinned.checked.prog.make==some Rows.fnExactIsStoreRow.make)=true:=by kernel_rfl
theorem j29:(Rows.fnExactIsStoreRow.pinned==Rows.fnExactIsStoreRow.pinnedBy)=true:=by kernel_rfl
theorem j30:(Rows.fnExactIsStoreRow.veiled==(Tryz.f9.params.toList++Rows.fnExactIsStoreSpec.plain.varTypes Tryz.pinned.checked.prog++Tryz.f9.resultTypes.toList).any (Tryz.pinned.checked.prog.veiledRec ·))=true:=by kernel_rfl
theorem j31:(Rows.fnExactIsStoreRow.veiledFits Tryz.pinned.checked.prog Tryz.f9.params.toList (Tryz.f9.params.toList++Rows.fnExactIsStoreSpec.plain.varTypes Tryz.pinned.checked.prog++Tryz.f9.resultTypes.toList))=true:=by kernel_rfl
theorem closed:joinedFacts Tryz.pinned.checked.prog 9 Tryz.f9 Rows.fnExactIsStoreSpec Rows.fnExactIsStoreRow=true:=by
 unfold joinedFacts;refine (both (both (both (both (both (both (both (both (both (both (both (both (both (both (both (both (both (both (both (both (both (both (both (both (both (both (both (both (both (both (both j0 j1) j2) j3) j4) j5) j6) j7) j8) j9) j10) j11) j12) j13) j14) j15) j16) j17) j18) j19) j20) j21) j22) j23) j24) j25) j26) j27) ?_) j29) j30) j31);kernel_rfl
theorem eY:Rows.fnExactIsStoreRow.holds Tryz.pinned (OpenSpec.ofChange Rows.fnExactIsStoreSpec):=
 OpenClaim.holds_of_wide 9 Tryz.f9 rfl rfl rfl rfl rfl rfl rfl ⟨rfl,rfl,rfl,rfl,rfl⟩ rfl rfl rfl rfl rfl (by kernel_rfl) Tryz.func9 closed
  (of_decide_eq_true (by kernel_rfl)) (by unfold Func.isWrapper;first|(rw[if_pos (by decide +kernel)];kernel_rfl)|(rw[if_neg (by decide +kernel)];exact⟨rfl,rfl⟩))
  (λos started H enc _=>lifted os started H enc)
end Go.Proofs.YtbhogmdpmkpinaaGreat.P.Row9
namespace Go.Proofs.YtbhogmdpmkpinaaGreat
theorem isStore_holds:Rows.FnExactIsStoreSaid:=P.Row9.eY
#print axioms isStore_holds
end Go.Proofs.YtbhogmdpmkpinaaGreat
