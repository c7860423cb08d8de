/-
  No cell of these rows narrows 'for every input' (looked for: loops, veiled, ifaces, maps, wideKeys, modest, calm, conditions, laid).
  DERIVED. THE GIVEN ROWS OF THIS SEAT. 12 by the template 'for every input the law returns true; each argument reads behind the call as it read before'; 0 by the template 'total and deterministic' (their statements: YtbhogmdpmkpinaaGreatTotals.lean).
  GIVEN WITH THE SEED: the statements are not yours to turn. If you find one false, say at which input.
  Laid BY PROGRAM, IN A SANDBOX (cutbox-rows.mjs): the forced cells as the released guide's own fill.sh prints them over the translation 10b80a1a290858fd… (all of the seat's roots in one cut). By AI agents, Wed Nov 11 2026. No macro, syntax, notation, axiom, sorry.
-/
import Derived.Test.YtbhogmdpmkpinaaGreatChecked
import GoSem.Claim
import GoSem.ClaimJoined
import GoSem.ClaimMapViews
import Derived.JoinedTies
import Derived.KernelRfl
namespace Go.Proofs.YtbhogmdpmkpinaaGreat
/- THE CELL 'sum', in the pinned program and in every row, IS THE sha256 OF THE DUMP (.gsa) THAT YtbhogmdpmkpinaaGreatProg.lean LOADS. Nothing in Lean hashes anything: it is a label: what it is worth is what the hold of that sum in a sandbox is worth. -/
noncomputable def Tryz.pinned : Pinned := { name := "ytbhogmdpmkpinaagreat", sum := "10b80a1a290858fd4cbaf75c8f95252752396f5ffb8ab06bf29cb77e906e6f87", checked := Tryz.checked }
namespace Rows
def none {H : Type} : Left H := { results := [], args := [] }

/-- 'laws.FnWhy': WHATEVER THE INPUT: true; the input reads as it did. -/
def fnWhySpec : ChangeSpec := { name := "fnWhy", fn := fun _ => fun
  | [d] => { results := [.lit (.bool true)], args := [d] }
  | _ => none }
def fnWhyRow : OpenClaim := { program := "ytbhogmdpmkpinaagreat", sum := "10b80a1a290858fd4cbaf75c8f95252752396f5ffb8ab06bf29cb77e906e6f87", func := "loop.example/g03413/laws.FnWhy", spec := "fnWhy", unfollowed := true, recurses := true, apart := false }
def FnWhySaid : Prop := fnWhyRow.holds Tryz.pinned (OpenSpec.ofChange fnWhySpec)

/-- ITS FALSE NEIGHBOUR: 'it returns false'. Refute it at one input. -/
def fnWhyWrong : ChangeSpec := { name := "fnWhy", fn := fun _ => fun
  | [d] => { results := [.lit (.bool false)], args := [d] }
  | _ => none }
def FnWhyWrongFalsely : Prop := fnWhyRow.holds Tryz.pinned (OpenSpec.ofChange fnWhyWrong)

/-- 'laws.FnExactTimesNear': WHATEVER THE INPUT: true; the input reads as it did. -/
def fnExactTimesNearSpec : ChangeSpec := { name := "fnExactTimesNear", fn := fun _ => fun
  | [d1, d2, d3] => { results := [.lit (.bool true)], args := [d1, d2, d3] }
  | _ => none }
def fnExactTimesNearRow : OpenClaim := { program := "ytbhogmdpmkpinaagreat", sum := "10b80a1a290858fd4cbaf75c8f95252752396f5ffb8ab06bf29cb77e906e6f87", func := "loop.example/g03413/laws.FnExactTimesNear", spec := "fnExactTimesNear", unfollowed := true, recurses := true, apart := false }
def FnExactTimesNearSaid : Prop := fnExactTimesNearRow.holds Tryz.pinned (OpenSpec.ofChange fnExactTimesNearSpec)

/-- ITS FALSE NEIGHBOUR: 'it returns false'. Refute it at one input. -/
def fnExactTimesNearWrong : ChangeSpec := { name := "fnExactTimesNear", fn := fun _ => fun
  | [d1, d2, d3] => { results := [.lit (.bool false)], args := [d1, d2, d3] }
  | _ => none }
def FnExactTimesNearWrongFalsely : Prop := fnExactTimesNearRow.holds Tryz.pinned (OpenSpec.ofChange fnExactTimesNearWrong)

/-- 'laws.FnNear': WHATEVER THE INPUT: true; the input reads as it did. -/
def fnNearSpec : ChangeSpec := { name := "fnNear", fn := fun _ => fun
  | [d] => { results := [.lit (.bool true)], args := [d] }
  | _ => none }
def fnNearRow : OpenClaim := { program := "ytbhogmdpmkpinaagreat", sum := "10b80a1a290858fd4cbaf75c8f95252752396f5ffb8ab06bf29cb77e906e6f87", func := "loop.example/g03413/laws.FnNear", spec := "fnNear", unfollowed := true, recurses := true, apart := false }
def FnNearSaid : Prop := fnNearRow.holds Tryz.pinned (OpenSpec.ofChange fnNearSpec)

/-- ITS FALSE NEIGHBOUR: 'it returns false'. Refute it at one input. -/
def fnNearWrong : ChangeSpec := { name := "fnNear", fn := fun _ => fun
  | [d] => { results := [.lit (.bool false)], args := [d] }
  | _ => none }
def FnNearWrongFalsely : Prop := fnNearRow.holds Tryz.pinned (OpenSpec.ofChange fnNearWrong)

/-- 'laws.FnTimes': WHATEVER THE INPUT: true; the input reads as it did. -/
def fnTimesSpec : ChangeSpec := { name := "fnTimes", fn := fun _ => fun
  | [d] => { results := [.lit (.bool true)], args := [d] }
  | _ => none }
def fnTimesRow : OpenClaim := { program := "ytbhogmdpmkpinaagreat", sum := "10b80a1a290858fd4cbaf75c8f95252752396f5ffb8ab06bf29cb77e906e6f87", func := "loop.example/g03413/laws.FnTimes", spec := "fnTimes", unfollowed := true, recurses := true, apart := false }
def FnTimesSaid : Prop := fnTimesRow.holds Tryz.pinned (OpenSpec.ofChange fnTimesSpec)

/-- ITS FALSE NEIGHBOUR: 'it returns false'. Refute it at one input. -/
def fnTimesWrong : ChangeSpec := { name := "fnTimes", fn := fun _ => fun
  | [d] => { results := [.lit (.bool false)], args := [d] }
  | _ => none }
def FnTimesWrongFalsely : Prop := fnTimesRow.holds Tryz.pinned (OpenSpec.ofChange fnTimesWrong)

/-- 'laws.FnExactRegionOfView': WHATEVER THE INPUT: true; the input reads as it did. -/
def fnExactRegionOfViewSpec : ChangeSpec := { name := "fnExactRegionOfView", fn := fun _ => fun
  | [d1, d2] => { results := [.lit (.bool true)], args := [d1, d2] }
  | _ => none }
def fnExactRegionOfViewRow : OpenClaim := { program := "ytbhogmdpmkpinaagreat", sum := "10b80a1a290858fd4cbaf75c8f95252752396f5ffb8ab06bf29cb77e906e6f87", func := "loop.example/g03413/laws.FnExactRegionOfView", spec := "fnExactRegionOfView", unfollowed := true, recurses := true, apart := false }
def FnExactRegionOfViewSaid : Prop := fnExactRegionOfViewRow.holds Tryz.pinned (OpenSpec.ofChange fnExactRegionOfViewSpec)

/-- ITS FALSE NEIGHBOUR: 'it returns false'. Refute it at one input. -/
def fnExactRegionOfViewWrong : ChangeSpec := { name := "fnExactRegionOfView", fn := fun _ => fun
  | [d1, d2] => { results := [.lit (.bool false)], args := [d1, d2] }
  | _ => none }
def FnExactRegionOfViewWrongFalsely : Prop := fnExactRegionOfViewRow.holds Tryz.pinned (OpenSpec.ofChange fnExactRegionOfViewWrong)

/-- 'laws.FnExactRuleHolds': WHATEVER THE INPUT: true; the input reads as it did. -/
def fnExactRuleHoldsSpec : ChangeSpec := { name := "fnExactRuleHolds", fn := fun _ => fun
  | [d1, d2] => { results := [.lit (.bool true)], args := [d1, d2] }
  | _ => none }
def fnExactRuleHoldsRow : OpenClaim := { program := "ytbhogmdpmkpinaagreat", sum := "10b80a1a290858fd4cbaf75c8f95252752396f5ffb8ab06bf29cb77e906e6f87", func := "loop.example/g03413/laws.FnExactRuleHolds", spec := "fnExactRuleHolds", unfollowed := true, recurses := true, apart := false }
def FnExactRuleHoldsSaid : Prop := fnExactRuleHoldsRow.holds Tryz.pinned (OpenSpec.ofChange fnExactRuleHoldsSpec)

/-- ITS FALSE NEIGHBOUR: 'it returns false'. Refute it at one input. -/
def fnExactRuleHoldsWrong : ChangeSpec := { name := "fnExactRuleHolds", fn := fun _ => fun
  | [d1, d2] => { results := [.lit (.bool false)], args := [d1, d2] }
  | _ => none }
def FnExactRuleHoldsWrongFalsely : Prop := fnExactRuleHoldsRow.holds Tryz.pinned (OpenSpec.ofChange fnExactRuleHoldsWrong)

/-- 'laws.FnExactIsStore': WHATEVER THE INPUT: true; the input reads as it did. -/
def fnExactIsStoreSpec : ChangeSpec := { name := "fnExactIsStore", fn := fun _ => fun
  | [d] => { results := [.lit (.bool true)], args := [d] }
  | _ => none }
def fnExactIsStoreRow : OpenClaim := { program := "ytbhogmdpmkpinaagreat", sum := "10b80a1a290858fd4cbaf75c8f95252752396f5ffb8ab06bf29cb77e906e6f87", func := "loop.example/g03413/laws.FnExactIsStore", spec := "fnExactIsStore", unfollowed := true, recurses := true, apart := false }
def FnExactIsStoreSaid : Prop := fnExactIsStoreRow.holds Tryz.pinned (OpenSpec.ofChange fnExactIsStoreSpec)

/-- ITS FALSE NEIGHBOUR: 'it returns false'. Refute it at one input. -/
def fnExactIsStoreWrong : ChangeSpec := { name := "fnExactIsStore", fn := fun _ => fun
  | [d] => { results := [.lit (.bool false)], args := [d] }
  | _ => none }
def FnExactIsStoreWrongFalsely : Prop := fnExactIsStoreRow.holds Tryz.pinned (OpenSpec.ofChange fnExactIsStoreWrong)

/-- 'laws.FnExactVersionsWith': WHATEVER THE INPUT: true; the input reads as it did. -/
def fnExactVersionsWithSpec : ChangeSpec := { name := "fnExactVersionsWith", fn := fun _ => fun
  | [d1, d2] => { results := [.lit (.bool true)], args := [d1, d2] }
  | _ => none }
def fnExactVersionsWithRow : OpenClaim := { program := "ytbhogmdpmkpinaagreat", sum := "10b80a1a290858fd4cbaf75c8f95252752396f5ffb8ab06bf29cb77e906e6f87", func := "loop.example/g03413/laws.FnExactVersionsWith", spec := "fnExactVersionsWith", unfollowed := true, recurses := true, apart := false }
def FnExactVersionsWithSaid : Prop := fnExactVersionsWithRow.holds Tryz.pinned (OpenSpec.ofChange fnExactVersionsWithSpec)

/-- ITS FALSE NEIGHBOUR: 'it returns false'. Refute it at one input. -/
def fnExactVersionsWithWrong : ChangeSpec := { name := "fnExactVersionsWith", fn := fun _ => fun
  | [d1, d2] => { results := [.lit (.bool false)], args := [d1, d2] }
  | _ => none }
def FnExactVersionsWithWrongFalsely : Prop := fnExactVersionsWithRow.holds Tryz.pinned (OpenSpec.ofChange fnExactVersionsWithWrong)

/-- 'laws.FnExactCurrentOf': WHATEVER THE INPUT: true; the input reads as it did. -/
def fnExactCurrentOfSpec : ChangeSpec := { name := "fnExactCurrentOf", fn := fun _ => fun
  | [d] => { results := [.lit (.bool true)], args := [d] }
  | _ => none }
def fnExactCurrentOfRow : OpenClaim := { program := "ytbhogmdpmkpinaagreat", sum := "10b80a1a290858fd4cbaf75c8f95252752396f5ffb8ab06bf29cb77e906e6f87", func := "loop.example/g03413/laws.FnExactCurrentOf", spec := "fnExactCurrentOf", unfollowed := true, recurses := true, apart := false }
def FnExactCurrentOfSaid : Prop := fnExactCurrentOfRow.holds Tryz.pinned (OpenSpec.ofChange fnExactCurrentOfSpec)

/-- ITS FALSE NEIGHBOUR: 'it returns false'. Refute it at one input. -/
def fnExactCurrentOfWrong : ChangeSpec := { name := "fnExactCurrentOf", fn := fun _ => fun
  | [d] => { results := [.lit (.bool false)], args := [d] }
  | _ => none }
def FnExactCurrentOfWrongFalsely : Prop := fnExactCurrentOfRow.holds Tryz.pinned (OpenSpec.ofChange fnExactCurrentOfWrong)

/-- 'laws.FnExactUndoCommit': WHATEVER THE INPUT: true; the input reads as it did. -/
def fnExactUndoCommitSpec : ChangeSpec := { name := "fnExactUndoCommit", fn := fun _ => fun
  | [d] => { results := [.lit (.bool true)], args := [d] }
  | _ => none }
def fnExactUndoCommitRow : OpenClaim := { program := "ytbhogmdpmkpinaagreat", sum := "10b80a1a290858fd4cbaf75c8f95252752396f5ffb8ab06bf29cb77e906e6f87", func := "loop.example/g03413/laws.FnExactUndoCommit", spec := "fnExactUndoCommit", unfollowed := true, recurses := true, apart := false }
def FnExactUndoCommitSaid : Prop := fnExactUndoCommitRow.holds Tryz.pinned (OpenSpec.ofChange fnExactUndoCommitSpec)

/-- ITS FALSE NEIGHBOUR: 'it returns false'. Refute it at one input. -/
def fnExactUndoCommitWrong : ChangeSpec := { name := "fnExactUndoCommit", fn := fun _ => fun
  | [d] => { results := [.lit (.bool false)], args := [d] }
  | _ => none }
def FnExactUndoCommitWrongFalsely : Prop := fnExactUndoCommitRow.holds Tryz.pinned (OpenSpec.ofChange fnExactUndoCommitWrong)

/-- 'laws.FnExactAddRule': WHATEVER THE INPUT: true; the input reads as it did. -/
def fnExactAddRuleSpec : ChangeSpec := { name := "fnExactAddRule", fn := fun _ => fun
  | [d1, d2] => { results := [.lit (.bool true)], args := [d1, d2] }
  | _ => none }
def fnExactAddRuleRow : OpenClaim := { program := "ytbhogmdpmkpinaagreat", sum := "10b80a1a290858fd4cbaf75c8f95252752396f5ffb8ab06bf29cb77e906e6f87", func := "loop.example/g03413/laws.FnExactAddRule", spec := "fnExactAddRule", unfollowed := true, recurses := true, apart := false }
def FnExactAddRuleSaid : Prop := fnExactAddRuleRow.holds Tryz.pinned (OpenSpec.ofChange fnExactAddRuleSpec)

/-- ITS FALSE NEIGHBOUR: 'it returns false'. Refute it at one input. -/
def fnExactAddRuleWrong : ChangeSpec := { name := "fnExactAddRule", fn := fun _ => fun
  | [d1, d2] => { results := [.lit (.bool false)], args := [d1, d2] }
  | _ => none }
def FnExactAddRuleWrongFalsely : Prop := fnExactAddRuleRow.holds Tryz.pinned (OpenSpec.ofChange fnExactAddRuleWrong)

/-- 'laws.FnExactIsHouse': WHATEVER THE INPUT: true; the input reads as it did. -/
def fnExactIsHouseSpec : ChangeSpec := { name := "fnExactIsHouse", fn := fun _ => fun
  | [d] => { results := [.lit (.bool true)], args := [d] }
  | _ => none }
def fnExactIsHouseRow : OpenClaim := { program := "ytbhogmdpmkpinaagreat", sum := "10b80a1a290858fd4cbaf75c8f95252752396f5ffb8ab06bf29cb77e906e6f87", func := "loop.example/g03413/laws.FnExactIsHouse", spec := "fnExactIsHouse", unfollowed := true, recurses := true, apart := false }
def FnExactIsHouseSaid : Prop := fnExactIsHouseRow.holds Tryz.pinned (OpenSpec.ofChange fnExactIsHouseSpec)

/-- ITS FALSE NEIGHBOUR: 'it returns false'. Refute it at one input. -/
def fnExactIsHouseWrong : ChangeSpec := { name := "fnExactIsHouse", fn := fun _ => fun
  | [d] => { results := [.lit (.bool false)], args := [d] }
  | _ => none }
def FnExactIsHouseWrongFalsely : Prop := fnExactIsHouseRow.holds Tryz.pinned (OpenSpec.ofChange fnExactIsHouseWrong)

/- THE SECOND FORM. 'bulk': how many values and letters a reading holds, each counted each time it is reached (what is shared counts as often as it is met; a slice's spare places count too). A statement '..UptoSaid' is the law's where the arguments, and the package variables that the reading takes, are together of bulk at most 1048576: NARROWER than '..Said'. Prove '..Said' where nothing that the law and all that it calls make is longer than what came in: it says more and counts as full. Else prove '..UptoSaid'. A law counts once. -/
mutual
def uptoBulk {H : Type} : DataW H → Nat
  | .lit (.string bytes) => bytes.length + 1
  | .lit _ => 1
  | .nil => 1
  | .ptr d => uptoBulk d + 1
  | .slice elems spare => uptoBulkAll elems + uptoBulkAll spare + 1
  | .agg parts => uptoBulkAll parts + 1
  | .iface _ d => uptoBulk d + 1
  | .map entries => uptoBulkEntries entries + 1
  | .held _ => 1
def uptoBulkAll {H : Type} : List (DataW H) → Nat
  | [] => 0
  | d :: r => uptoBulk d + uptoBulkAll r
def uptoBulkEntries {H : Type} : List (Lit × DataW H) → Nat
  | [] => 0
  | x :: r => uptoBulkEntry x + uptoBulkEntries r
def uptoBulkEntry {H : Type} : Lit × DataW H → Nat
  | (.string bytes, d) => bytes.length + uptoBulk d + 1
  | (_, d) => uptoBulk d + 1
 end
def uptoSmall : (H : Type) → List (DataW H) → Bool := fun _ ds => decide (uptoBulkAll ds ≤ 1048576)
def OpenSpec.upto (s : _root_.Go.ChangeSpec) : _root_.Go.OpenSpec := { _root_.Go.OpenSpec.ofChange s with cond := some uptoSmall }

/-- 'laws.FnWhy', WHERE WHAT IT READS IS OF BULK AT MOST 1048576: true; the input reads as it did. -/
def fnWhyUptoRow : OpenClaim := { program := "ytbhogmdpmkpinaagreat", sum := "10b80a1a290858fd4cbaf75c8f95252752396f5ffb8ab06bf29cb77e906e6f87", func := "loop.example/g03413/laws.FnWhy", spec := "fnWhy", unfollowed := true, recurses := true, apart := false, narrowed := true }
def FnWhyUptoSaid : Prop := fnWhyUptoRow.holds Tryz.pinned (OpenSpec.upto fnWhySpec)

/-- 'laws.FnExactTimesNear', WHERE WHAT IT READS IS OF BULK AT MOST 1048576: true; the input reads as it did. -/
def fnExactTimesNearUptoRow : OpenClaim := { program := "ytbhogmdpmkpinaagreat", sum := "10b80a1a290858fd4cbaf75c8f95252752396f5ffb8ab06bf29cb77e906e6f87", func := "loop.example/g03413/laws.FnExactTimesNear", spec := "fnExactTimesNear", unfollowed := true, recurses := true, apart := false, narrowed := true }
def FnExactTimesNearUptoSaid : Prop := fnExactTimesNearUptoRow.holds Tryz.pinned (OpenSpec.upto fnExactTimesNearSpec)

/-- 'laws.FnNear', WHERE WHAT IT READS IS OF BULK AT MOST 1048576: true; the input reads as it did. -/
def fnNearUptoRow : OpenClaim := { program := "ytbhogmdpmkpinaagreat", sum := "10b80a1a290858fd4cbaf75c8f95252752396f5ffb8ab06bf29cb77e906e6f87", func := "loop.example/g03413/laws.FnNear", spec := "fnNear", unfollowed := true, recurses := true, apart := false, narrowed := true }
def FnNearUptoSaid : Prop := fnNearUptoRow.holds Tryz.pinned (OpenSpec.upto fnNearSpec)

/-- 'laws.FnTimes', WHERE WHAT IT READS IS OF BULK AT MOST 1048576: true; the input reads as it did. -/
def fnTimesUptoRow : OpenClaim := { program := "ytbhogmdpmkpinaagreat", sum := "10b80a1a290858fd4cbaf75c8f95252752396f5ffb8ab06bf29cb77e906e6f87", func := "loop.example/g03413/laws.FnTimes", spec := "fnTimes", unfollowed := true, recurses := true, apart := false, narrowed := true }
def FnTimesUptoSaid : Prop := fnTimesUptoRow.holds Tryz.pinned (OpenSpec.upto fnTimesSpec)

/-- 'laws.FnExactRegionOfView', WHERE WHAT IT READS IS OF BULK AT MOST 1048576: true; the input reads as it did. -/
def fnExactRegionOfViewUptoRow : OpenClaim := { program := "ytbhogmdpmkpinaagreat", sum := "10b80a1a290858fd4cbaf75c8f95252752396f5ffb8ab06bf29cb77e906e6f87", func := "loop.example/g03413/laws.FnExactRegionOfView", spec := "fnExactRegionOfView", unfollowed := true, recurses := true, apart := false, narrowed := true }
def FnExactRegionOfViewUptoSaid : Prop := fnExactRegionOfViewUptoRow.holds Tryz.pinned (OpenSpec.upto fnExactRegionOfViewSpec)

/-- 'laws.FnExactRuleHolds', WHERE WHAT IT READS IS OF BULK AT MOST 1048576: true; the input reads as it did. -/
def fnExactRuleHoldsUptoRow : OpenClaim := { program := "ytbhogmdpmkpinaagreat", sum := "10b80a1a290858fd4cbaf75c8f95252752396f5ffb8ab06bf29cb77e906e6f87", func := "loop.example/g03413/laws.FnExactRuleHolds", spec := "fnExactRuleHolds", unfollowed := true, recurses := true, apart := false, narrowed := true }
def FnExactRuleHoldsUptoSaid : Prop := fnExactRuleHoldsUptoRow.holds Tryz.pinned (OpenSpec.upto fnExactRuleHoldsSpec)

/-- 'laws.FnExactIsStore', WHERE WHAT IT READS IS OF BULK AT MOST 1048576: true; the input reads as it did. -/
def fnExactIsStoreUptoRow : OpenClaim := { program := "ytbhogmdpmkpinaagreat", sum := "10b80a1a290858fd4cbaf75c8f95252752396f5ffb8ab06bf29cb77e906e6f87", func := "loop.example/g03413/laws.FnExactIsStore", spec := "fnExactIsStore", unfollowed := true, recurses := true, apart := false, narrowed := true }
def FnExactIsStoreUptoSaid : Prop := fnExactIsStoreUptoRow.holds Tryz.pinned (OpenSpec.upto fnExactIsStoreSpec)

/-- 'laws.FnExactVersionsWith', WHERE WHAT IT READS IS OF BULK AT MOST 1048576: true; the input reads as it did. -/
def fnExactVersionsWithUptoRow : OpenClaim := { program := "ytbhogmdpmkpinaagreat", sum := "10b80a1a290858fd4cbaf75c8f95252752396f5ffb8ab06bf29cb77e906e6f87", func := "loop.example/g03413/laws.FnExactVersionsWith", spec := "fnExactVersionsWith", unfollowed := true, recurses := true, apart := false, narrowed := true }
def FnExactVersionsWithUptoSaid : Prop := fnExactVersionsWithUptoRow.holds Tryz.pinned (OpenSpec.upto fnExactVersionsWithSpec)

/-- 'laws.FnExactCurrentOf', WHERE WHAT IT READS IS OF BULK AT MOST 1048576: true; the input reads as it did. -/
def fnExactCurrentOfUptoRow : OpenClaim := { program := "ytbhogmdpmkpinaagreat", sum := "10b80a1a290858fd4cbaf75c8f95252752396f5ffb8ab06bf29cb77e906e6f87", func := "loop.example/g03413/laws.FnExactCurrentOf", spec := "fnExactCurrentOf", unfollowed := true, recurses := true, apart := false, narrowed := true }
def FnExactCurrentOfUptoSaid : Prop := fnExactCurrentOfUptoRow.holds Tryz.pinned (OpenSpec.upto fnExactCurrentOfSpec)

/-- 'laws.FnExactUndoCommit', WHERE WHAT IT READS IS OF BULK AT MOST 1048576: true; the input reads as it did. -/
def fnExactUndoCommitUptoRow : OpenClaim := { program := "ytbhogmdpmkpinaagreat", sum := "10b80a1a290858fd4cbaf75c8f95252752396f5ffb8ab06bf29cb77e906e6f87", func := "loop.example/g03413/laws.FnExactUndoCommit", spec := "fnExactUndoCommit", unfollowed := true, recurses := true, apart := false, narrowed := true }
def FnExactUndoCommitUptoSaid : Prop := fnExactUndoCommitUptoRow.holds Tryz.pinned (OpenSpec.upto fnExactUndoCommitSpec)

/-- 'laws.FnExactAddRule', WHERE WHAT IT READS IS OF BULK AT MOST 1048576: true; the input reads as it did. -/
def fnExactAddRuleUptoRow : OpenClaim := { program := "ytbhogmdpmkpinaagreat", sum := "10b80a1a290858fd4cbaf75c8f95252752396f5ffb8ab06bf29cb77e906e6f87", func := "loop.example/g03413/laws.FnExactAddRule", spec := "fnExactAddRule", unfollowed := true, recurses := true, apart := false, narrowed := true }
def FnExactAddRuleUptoSaid : Prop := fnExactAddRuleUptoRow.holds Tryz.pinned (OpenSpec.upto fnExactAddRuleSpec)

/-- 'laws.FnExactIsHouse', WHERE WHAT IT READS IS OF BULK AT MOST 1048576: true; the input reads as it did. -/
def fnExactIsHouseUptoRow : OpenClaim := { program := "ytbhogmdpmkpinaagreat", sum := "10b80a1a290858fd4cbaf75c8f95252752396f5ffb8ab06bf29cb77e906e6f87", func := "loop.example/g03413/laws.FnExactIsHouse", spec := "fnExactIsHouse", unfollowed := true, recurses := true, apart := false, narrowed := true }
def FnExactIsHouseUptoSaid : Prop := fnExactIsHouseUptoRow.holds Tryz.pinned (OpenSpec.upto fnExactIsHouseSpec)

end Rows
end Go.Proofs.YtbhogmdpmkpinaaGreat
