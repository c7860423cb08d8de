/-
  No cell of these rows narrows 'for every input' (looked for: loops, veiled, ifaces, maps, wideKeys, modest, calm, conditions, laid).
  DERIVED. THE GIVEN ROWS OF THIS SEAT. 3 by the template 'for every input the law returns true; each argument reads behind the call as it read before'; 0 by the template 'total and deterministic' (their statements: YtkanidldnnfloaaGreatTotals.lean).
  GIVEN WITH THE SEED: the statements are not yours to turn. If you find one false, say at which input.
  Laid BY PROGRAM, IN A SANDBOX (cutbox-rows.mjs): the forced cells as the released guide's own fill.sh prints them over the translation baa33d2b01fee083… (all of the seat's roots in one cut). By AI agents, Wed Nov 11 2026. No macro, syntax, notation, axiom, sorry.
-/
import Derived.Test.YtkanidldnnfloaaGreatChecked
import GoSem.Claim
import GoSem.ClaimJoined
import GoSem.ClaimMapViews
import Derived.JoinedTies
import Derived.KernelRfl
namespace Go.Proofs.YtkanidldnnfloaaGreat
/- THE CELL 'sum', in the pinned program and in every row, IS THE sha256 OF THE DUMP (.gsa) THAT YtkanidldnnfloaaGreatProg.lean LOADS. Nothing in Lean hashes anything: it is a label: what it is worth is what the hold of that sum in a sandbox is worth. -/
noncomputable def Tryz.pinned : Pinned := { name := "ytkanidldnnfloaagreat", sum := "baa33d2b01fee0833cb39f1a1c29956004f1eedb8921526c57d738d33f024c38", checked := Tryz.checked }
namespace Rows
def none {H : Type} : Left H := { results := [], args := [] }

/-- 'laws.FnExactTrackRegion': WHATEVER THE INPUT: true; the input reads as it did. -/
def fnExactTrackRegionSpec : ChangeSpec := { name := "fnExactTrackRegion", fn := fun _ => fun
  | [d] => { results := [.lit (.bool true)], args := [d] }
  | _ => none }
def fnExactTrackRegionRow : OpenClaim := { program := "ytkanidldnnfloaagreat", sum := "baa33d2b01fee0833cb39f1a1c29956004f1eedb8921526c57d738d33f024c38", func := "loop.example/g03413/laws.FnExactTrackRegion", spec := "fnExactTrackRegion", unfollowed := true, recurses := true, apart := false }
def FnExactTrackRegionSaid : Prop := fnExactTrackRegionRow.holds Tryz.pinned (OpenSpec.ofChange fnExactTrackRegionSpec)

/-- ITS FALSE NEIGHBOUR: 'it returns false'. Refute it at one input. -/
def fnExactTrackRegionWrong : ChangeSpec := { name := "fnExactTrackRegion", fn := fun _ => fun
  | [d] => { results := [.lit (.bool false)], args := [d] }
  | _ => none }
def FnExactTrackRegionWrongFalsely : Prop := fnExactTrackRegionRow.holds Tryz.pinned (OpenSpec.ofChange fnExactTrackRegionWrong)

/-- 'laws.FnExactViewAfterRemove': WHATEVER THE INPUT: true; the input reads as it did. -/
def fnExactViewAfterRemoveSpec : ChangeSpec := { name := "fnExactViewAfterRemove", fn := fun _ => fun
  | [d1, d2, d3, d4] => { results := [.lit (.bool true)], args := [d1, d2, d3, d4] }
  | _ => none }
def fnExactViewAfterRemoveRow : OpenClaim := { program := "ytkanidldnnfloaagreat", sum := "baa33d2b01fee0833cb39f1a1c29956004f1eedb8921526c57d738d33f024c38", func := "loop.example/g03413/laws.FnExactViewAfterRemove", spec := "fnExactViewAfterRemove", apart := false }
def FnExactViewAfterRemoveSaid : Prop := fnExactViewAfterRemoveRow.holds Tryz.pinned (OpenSpec.ofChange fnExactViewAfterRemoveSpec)

/-- ITS FALSE NEIGHBOUR: 'it returns false'. Refute it at one input. -/
def fnExactViewAfterRemoveWrong : ChangeSpec := { name := "fnExactViewAfterRemove", fn := fun _ => fun
  | [d1, d2, d3, d4] => { results := [.lit (.bool false)], args := [d1, d2, d3, d4] }
  | _ => none }
def FnExactViewAfterRemoveWrongFalsely : Prop := fnExactViewAfterRemoveRow.holds Tryz.pinned (OpenSpec.ofChange fnExactViewAfterRemoveWrong)

/-- 'laws.FnExactWhyAt': WHATEVER THE INPUT: true; the input reads as it did. -/
def fnExactWhyAtSpec : ChangeSpec := { name := "fnExactWhyAt", fn := fun _ => fun
  | [d1, d2, d3] => { results := [.lit (.bool true)], args := [d1, d2, d3] }
  | _ => none }
def fnExactWhyAtRow : OpenClaim := { program := "ytkanidldnnfloaagreat", sum := "baa33d2b01fee0833cb39f1a1c29956004f1eedb8921526c57d738d33f024c38", func := "loop.example/g03413/laws.FnExactWhyAt", spec := "fnExactWhyAt", apart := false }
def FnExactWhyAtSaid : Prop := fnExactWhyAtRow.holds Tryz.pinned (OpenSpec.ofChange fnExactWhyAtSpec)

/-- ITS FALSE NEIGHBOUR: 'it returns false'. Refute it at one input. -/
def fnExactWhyAtWrong : ChangeSpec := { name := "fnExactWhyAt", fn := fun _ => fun
  | [d1, d2, d3] => { results := [.lit (.bool false)], args := [d1, d2, d3] }
  | _ => none }
def FnExactWhyAtWrongFalsely : Prop := fnExactWhyAtRow.holds Tryz.pinned (OpenSpec.ofChange fnExactWhyAtWrong)

/- THE SECOND FORM. 'bulk': how many values and letters a reading holds, each counted each time it is reached (what is shared counts as often as it is met; a slice's spare places count too). A statement '..UptoSaid' is the law's where the arguments, and the package variables that the reading takes, are together of bulk at most 1048576: NARROWER than '..Said'. Prove '..Said' where nothing that the law and all that it calls make is longer than what came in: it says more and counts as full. Else prove '..UptoSaid'. A law counts once. -/
mutual
def uptoBulk {H : Type} : DataW H → Nat
  | .lit (.string bytes) => bytes.length + 1
  | .lit _ => 1
  | .nil => 1
  | .ptr d => uptoBulk d + 1
  | .slice elems spare => uptoBulkAll elems + uptoBulkAll spare + 1
  | .agg parts => uptoBulkAll parts + 1
  | .iface _ d => uptoBulk d + 1
  | .map entries => uptoBulkEntries entries + 1
  | .held _ => 1
def uptoBulkAll {H : Type} : List (DataW H) → Nat
  | [] => 0
  | d :: r => uptoBulk d + uptoBulkAll r
def uptoBulkEntries {H : Type} : List (Lit × DataW H) → Nat
  | [] => 0
  | x :: r => uptoBulkEntry x + uptoBulkEntries r
def uptoBulkEntry {H : Type} : Lit × DataW H → Nat
  | (.string bytes, d) => bytes.length + uptoBulk d + 1
  | (_, d) => uptoBulk d + 1
 end
def uptoSmall : (H : Type) → List (DataW H) → Bool := fun _ ds => decide (uptoBulkAll ds ≤ 1048576)
def OpenSpec.upto (s : _root_.Go.ChangeSpec) : _root_.Go.OpenSpec := { _root_.Go.OpenSpec.ofChange s with cond := some uptoSmall }

/-- 'laws.FnExactTrackRegion', WHERE WHAT IT READS IS OF BULK AT MOST 1048576: true; the input reads as it did. -/
def fnExactTrackRegionUptoRow : OpenClaim := { program := "ytkanidldnnfloaagreat", sum := "baa33d2b01fee0833cb39f1a1c29956004f1eedb8921526c57d738d33f024c38", func := "loop.example/g03413/laws.FnExactTrackRegion", spec := "fnExactTrackRegion", unfollowed := true, recurses := true, apart := false, narrowed := true }
def FnExactTrackRegionUptoSaid : Prop := fnExactTrackRegionUptoRow.holds Tryz.pinned (OpenSpec.upto fnExactTrackRegionSpec)

/-- 'laws.FnExactViewAfterRemove', WHERE WHAT IT READS IS OF BULK AT MOST 1048576: true; the input reads as it did. -/
def fnExactViewAfterRemoveUptoRow : OpenClaim := { program := "ytkanidldnnfloaagreat", sum := "baa33d2b01fee0833cb39f1a1c29956004f1eedb8921526c57d738d33f024c38", func := "loop.example/g03413/laws.FnExactViewAfterRemove", spec := "fnExactViewAfterRemove", apart := false, narrowed := true }
def FnExactViewAfterRemoveUptoSaid : Prop := fnExactViewAfterRemoveUptoRow.holds Tryz.pinned (OpenSpec.upto fnExactViewAfterRemoveSpec)

/-- 'laws.FnExactWhyAt', WHERE WHAT IT READS IS OF BULK AT MOST 1048576: true; the input reads as it did. -/
def fnExactWhyAtUptoRow : OpenClaim := { program := "ytkanidldnnfloaagreat", sum := "baa33d2b01fee0833cb39f1a1c29956004f1eedb8921526c57d738d33f024c38", func := "loop.example/g03413/laws.FnExactWhyAt", spec := "fnExactWhyAt", apart := false, narrowed := true }
def FnExactWhyAtUptoSaid : Prop := fnExactWhyAtUptoRow.holds Tryz.pinned (OpenSpec.upto fnExactWhyAtSpec)

end Rows
end Go.Proofs.YtkanidldnnfloaaGreat
