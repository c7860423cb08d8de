/-
  No cell of these rows narrows 'for every input' (looked for: loops, veiled, ifaces, maps, wideKeys, modest, calm, conditions, laid).
  DERIVED. THE GIVEN ROWS OF THIS SEAT. 10 by the template 'for every input the law returns true; each argument reads behind the call as it read before'; 0 by the template 'total and deterministic' (their statements: YtdfcejijcnhcaaaTotals.lean).
  GIVEN WITH THE SEED: the statements are not yours to turn. If you find one false, say at which input.
  Laid BY PROGRAM, IN A SANDBOX (cutbox-rows.mjs): the forced cells as the released guide's own fill.sh prints them over the translation 461435b0188210b6… (all of the seat's roots in one cut). By AI agents, Wed Nov 11 2026. No macro, syntax, notation, axiom, sorry.
-/
import Derived.Test.YtdfcejijcnhcaaaChecked
import GoSem.Claim
import GoSem.ClaimJoined
import GoSem.ClaimMapViews
import Derived.JoinedTies
import Derived.KernelRfl
namespace Go.Proofs.Ytdfcejijcnhcaaa
/- THE CELL 'sum', in the pinned program and in every row, IS THE sha256 OF THE DUMP (.gsa) THAT YtdfcejijcnhcaaaProg.lean LOADS. Nothing in Lean hashes anything: it is a label: what it is worth is what the hold of that sum in a sandbox is worth. -/
noncomputable def Try.pinned : Pinned := { name := "ytdfcejijcnhcaaa", sum := "461435b0188210b66d1723e5e3960738ce2b280afcc547062dfa3ed90f5982b0", checked := Try.checked }
namespace Rows
def none {H : Type} : Left H := { results := [], args := [] }

/-- 'laws.FnExactIsTrack': WHATEVER THE INPUT: true; the input reads as it did. -/
def fnExactIsTrackSpec : ChangeSpec := { name := "fnExactIsTrack", fn := fun _ => fun
  | [d] => { results := [.lit (.bool true)], args := [d] }
  | _ => none }
def fnExactIsTrackRow : OpenClaim := { program := "ytdfcejijcnhcaaa", sum := "461435b0188210b66d1723e5e3960738ce2b280afcc547062dfa3ed90f5982b0", func := "loop.example/g03413/laws.FnExactIsTrack", spec := "fnExactIsTrack", apart := false }
def FnExactIsTrackSaid : Prop := fnExactIsTrackRow.holds Try.pinned (OpenSpec.ofChange fnExactIsTrackSpec)

/-- ITS FALSE NEIGHBOUR: 'it returns false'. Refute it at one input. -/
def fnExactIsTrackWrong : ChangeSpec := { name := "fnExactIsTrack", fn := fun _ => fun
  | [d] => { results := [.lit (.bool false)], args := [d] }
  | _ => none }
def FnExactIsTrackWrongFalsely : Prop := fnExactIsTrackRow.holds Try.pinned (OpenSpec.ofChange fnExactIsTrackWrong)

/-- 'laws.FnExactJoinTracks': WHATEVER THE INPUT: true; the input reads as it did. -/
def fnExactJoinTracksSpec : ChangeSpec := { name := "fnExactJoinTracks", fn := fun _ => fun
  | [d1, d2] => { results := [.lit (.bool true)], args := [d1, d2] }
  | _ => none }
def fnExactJoinTracksRow : OpenClaim := { program := "ytdfcejijcnhcaaa", sum := "461435b0188210b66d1723e5e3960738ce2b280afcc547062dfa3ed90f5982b0", func := "loop.example/g03413/laws.FnExactJoinTracks", spec := "fnExactJoinTracks", apart := false }
def FnExactJoinTracksSaid : Prop := fnExactJoinTracksRow.holds Try.pinned (OpenSpec.ofChange fnExactJoinTracksSpec)

/-- ITS FALSE NEIGHBOUR: 'it returns false'. Refute it at one input. -/
def fnExactJoinTracksWrong : ChangeSpec := { name := "fnExactJoinTracks", fn := fun _ => fun
  | [d1, d2] => { results := [.lit (.bool false)], args := [d1, d2] }
  | _ => none }
def FnExactJoinTracksWrongFalsely : Prop := fnExactJoinTracksRow.holds Try.pinned (OpenSpec.ofChange fnExactJoinTracksWrong)

/-- 'laws.FnExactMoveTrack': WHATEVER THE INPUT: true; the input reads as it did. -/
def fnExactMoveTrackSpec : ChangeSpec := { name := "fnExactMoveTrack", fn := fun _ => fun
  | [d1, d2, d3, d4] => { results := [.lit (.bool true)], args := [d1, d2, d3, d4] }
  | _ => none }
def fnExactMoveTrackRow : OpenClaim := { program := "ytdfcejijcnhcaaa", sum := "461435b0188210b66d1723e5e3960738ce2b280afcc547062dfa3ed90f5982b0", func := "loop.example/g03413/laws.FnExactMoveTrack", spec := "fnExactMoveTrack", apart := false }
def FnExactMoveTrackSaid : Prop := fnExactMoveTrackRow.holds Try.pinned (OpenSpec.ofChange fnExactMoveTrackSpec)

/-- ITS FALSE NEIGHBOUR: 'it returns false'. Refute it at one input. -/
def fnExactMoveTrackWrong : ChangeSpec := { name := "fnExactMoveTrack", fn := fun _ => fun
  | [d1, d2, d3, d4] => { results := [.lit (.bool false)], args := [d1, d2, d3, d4] }
  | _ => none }
def FnExactMoveTrackWrongFalsely : Prop := fnExactMoveTrackRow.holds Try.pinned (OpenSpec.ofChange fnExactMoveTrackWrong)

/-- 'laws.FnExactSpeedOf': WHATEVER THE INPUT: true; the input reads as it did. -/
def fnExactSpeedOfSpec : ChangeSpec := { name := "fnExactSpeedOf", fn := fun _ => fun
  | [d] => { results := [.lit (.bool true)], args := [d] }
  | _ => none }
def fnExactSpeedOfRow : OpenClaim := { program := "ytdfcejijcnhcaaa", sum := "461435b0188210b66d1723e5e3960738ce2b280afcc547062dfa3ed90f5982b0", func := "loop.example/g03413/laws.FnExactSpeedOf", spec := "fnExactSpeedOf", apart := false }
def FnExactSpeedOfSaid : Prop := fnExactSpeedOfRow.holds Try.pinned (OpenSpec.ofChange fnExactSpeedOfSpec)

/-- ITS FALSE NEIGHBOUR: 'it returns false'. Refute it at one input. -/
def fnExactSpeedOfWrong : ChangeSpec := { name := "fnExactSpeedOf", fn := fun _ => fun
  | [d] => { results := [.lit (.bool false)], args := [d] }
  | _ => none }
def FnExactSpeedOfWrongFalsely : Prop := fnExactSpeedOfRow.holds Try.pinned (OpenSpec.ofChange fnExactSpeedOfWrong)

/-- 'laws.FnExactMoveCell': WHATEVER THE INPUT: true; the input reads as it did. -/
def fnExactMoveCellSpec : ChangeSpec := { name := "fnExactMoveCell", fn := fun _ => fun
  | [d1, d2] => { results := [.lit (.bool true)], args := [d1, d2] }
  | _ => none }
def fnExactMoveCellRow : OpenClaim := { program := "ytdfcejijcnhcaaa", sum := "461435b0188210b66d1723e5e3960738ce2b280afcc547062dfa3ed90f5982b0", func := "loop.example/g03413/laws.FnExactMoveCell", spec := "fnExactMoveCell", apart := false }
def FnExactMoveCellSaid : Prop := fnExactMoveCellRow.holds Try.pinned (OpenSpec.ofChange fnExactMoveCellSpec)

/-- ITS FALSE NEIGHBOUR: 'it returns false'. Refute it at one input. -/
def fnExactMoveCellWrong : ChangeSpec := { name := "fnExactMoveCell", fn := fun _ => fun
  | [d1, d2] => { results := [.lit (.bool false)], args := [d1, d2] }
  | _ => none }
def FnExactMoveCellWrongFalsely : Prop := fnExactMoveCellRow.holds Try.pinned (OpenSpec.ofChange fnExactMoveCellWrong)

/-- 'laws.FnMoved': WHATEVER THE INPUT: true; the input reads as it did. -/
def fnMovedSpec : ChangeSpec := { name := "fnMoved", fn := fun _ => fun
  | [d] => { results := [.lit (.bool true)], args := [d] }
  | _ => none }
def fnMovedRow : OpenClaim := { program := "ytdfcejijcnhcaaa", sum := "461435b0188210b66d1723e5e3960738ce2b280afcc547062dfa3ed90f5982b0", func := "loop.example/g03413/laws.FnMoved", spec := "fnMoved", apart := false }
def FnMovedSaid : Prop := fnMovedRow.holds Try.pinned (OpenSpec.ofChange fnMovedSpec)

/-- ITS FALSE NEIGHBOUR: 'it returns false'. Refute it at one input. -/
def fnMovedWrong : ChangeSpec := { name := "fnMoved", fn := fun _ => fun
  | [d] => { results := [.lit (.bool false)], args := [d] }
  | _ => none }
def FnMovedWrongFalsely : Prop := fnMovedRow.holds Try.pinned (OpenSpec.ofChange fnMovedWrong)

/-- 'laws.FnExactPositionAt': WHATEVER THE INPUT: true; the input reads as it did. -/
def fnExactPositionAtSpec : ChangeSpec := { name := "fnExactPositionAt", fn := fun _ => fun
  | [d1, d2] => { results := [.lit (.bool true)], args := [d1, d2] }
  | _ => none }
def fnExactPositionAtRow : OpenClaim := { program := "ytdfcejijcnhcaaa", sum := "461435b0188210b66d1723e5e3960738ce2b280afcc547062dfa3ed90f5982b0", func := "loop.example/g03413/laws.FnExactPositionAt", spec := "fnExactPositionAt", apart := false }
def FnExactPositionAtSaid : Prop := fnExactPositionAtRow.holds Try.pinned (OpenSpec.ofChange fnExactPositionAtSpec)

/-- ITS FALSE NEIGHBOUR: 'it returns false'. Refute it at one input. -/
def fnExactPositionAtWrong : ChangeSpec := { name := "fnExactPositionAt", fn := fun _ => fun
  | [d1, d2] => { results := [.lit (.bool false)], args := [d1, d2] }
  | _ => none }
def FnExactPositionAtWrongFalsely : Prop := fnExactPositionAtRow.holds Try.pinned (OpenSpec.ofChange fnExactPositionAtWrong)

/-- 'laws.FnExactCutTrack': WHATEVER THE INPUT: true; the input reads as it did. -/
def fnExactCutTrackSpec : ChangeSpec := { name := "fnExactCutTrack", fn := fun _ => fun
  | [d1, d2, d3] => { results := [.lit (.bool true)], args := [d1, d2, d3] }
  | _ => none }
def fnExactCutTrackRow : OpenClaim := { program := "ytdfcejijcnhcaaa", sum := "461435b0188210b66d1723e5e3960738ce2b280afcc547062dfa3ed90f5982b0", func := "loop.example/g03413/laws.FnExactCutTrack", spec := "fnExactCutTrack", apart := false }
def FnExactCutTrackSaid : Prop := fnExactCutTrackRow.holds Try.pinned (OpenSpec.ofChange fnExactCutTrackSpec)

/-- ITS FALSE NEIGHBOUR: 'it returns false'. Refute it at one input. -/
def fnExactCutTrackWrong : ChangeSpec := { name := "fnExactCutTrack", fn := fun _ => fun
  | [d1, d2, d3] => { results := [.lit (.bool false)], args := [d1, d2, d3] }
  | _ => none }
def FnExactCutTrackWrongFalsely : Prop := fnExactCutTrackRow.holds Try.pinned (OpenSpec.ofChange fnExactCutTrackWrong)

/-- 'laws.FnCuts': WHATEVER THE INPUT: true; the input reads as it did. -/
def fnCutsSpec : ChangeSpec := { name := "fnCuts", fn := fun _ => fun
  | [d] => { results := [.lit (.bool true)], args := [d] }
  | _ => none }
def fnCutsRow : OpenClaim := { program := "ytdfcejijcnhcaaa", sum := "461435b0188210b66d1723e5e3960738ce2b280afcc547062dfa3ed90f5982b0", func := "loop.example/g03413/laws.FnCuts", spec := "fnCuts", apart := false }
def FnCutsSaid : Prop := fnCutsRow.holds Try.pinned (OpenSpec.ofChange fnCutsSpec)

/-- ITS FALSE NEIGHBOUR: 'it returns false'. Refute it at one input. -/
def fnCutsWrong : ChangeSpec := { name := "fnCuts", fn := fun _ => fun
  | [d] => { results := [.lit (.bool false)], args := [d] }
  | _ => none }
def FnCutsWrongFalsely : Prop := fnCutsRow.holds Try.pinned (OpenSpec.ofChange fnCutsWrong)

/-- 'laws.FnExactIsOp': WHATEVER THE INPUT: true; the input reads as it did. -/
def fnExactIsOpSpec : ChangeSpec := { name := "fnExactIsOp", fn := fun _ => fun
  | [d1, d2] => { results := [.lit (.bool true)], args := [d1, d2] }
  | _ => none }
def fnExactIsOpRow : OpenClaim := { program := "ytdfcejijcnhcaaa", sum := "461435b0188210b66d1723e5e3960738ce2b280afcc547062dfa3ed90f5982b0", func := "loop.example/g03413/laws.FnExactIsOp", spec := "fnExactIsOp", apart := false }
def FnExactIsOpSaid : Prop := fnExactIsOpRow.holds Try.pinned (OpenSpec.ofChange fnExactIsOpSpec)

/-- ITS FALSE NEIGHBOUR: 'it returns false'. Refute it at one input. -/
def fnExactIsOpWrong : ChangeSpec := { name := "fnExactIsOp", fn := fun _ => fun
  | [d1, d2] => { results := [.lit (.bool false)], args := [d1, d2] }
  | _ => none }
def FnExactIsOpWrongFalsely : Prop := fnExactIsOpRow.holds Try.pinned (OpenSpec.ofChange fnExactIsOpWrong)

/- THE SECOND FORM. 'bulk': how many values and letters a reading holds, each counted each time it is reached (what is shared counts as often as it is met; a slice's spare places count too). A statement '..UptoSaid' is the law's where the arguments, and the package variables that the reading takes, are together of bulk at most 1048576: NARROWER than '..Said'. Prove '..Said' where nothing that the law and all that it calls make is longer than what came in: it says more and counts as full. Else prove '..UptoSaid'. A law counts once. -/
mutual
def uptoBulk {H : Type} : DataW H → Nat
  | .lit (.string bytes) => bytes.length + 1
  | .lit _ => 1
  | .nil => 1
  | .ptr d => uptoBulk d + 1
  | .slice elems spare => uptoBulkAll elems + uptoBulkAll spare + 1
  | .agg parts => uptoBulkAll parts + 1
  | .iface _ d => uptoBulk d + 1
  | .map entries => uptoBulkEntries entries + 1
  | .held _ => 1
def uptoBulkAll {H : Type} : List (DataW H) → Nat
  | [] => 0
  | d :: r => uptoBulk d + uptoBulkAll r
def uptoBulkEntries {H : Type} : List (Lit × DataW H) → Nat
  | [] => 0
  | x :: r => uptoBulkEntry x + uptoBulkEntries r
def uptoBulkEntry {H : Type} : Lit × DataW H → Nat
  | (.string bytes, d) => bytes.length + uptoBulk d + 1
  | (_, d) => uptoBulk d + 1
 end
def uptoSmall : (H : Type) → List (DataW H) → Bool := fun _ ds => decide (uptoBulkAll ds ≤ 1048576)
def OpenSpec.upto (s : _root_.Go.ChangeSpec) : _root_.Go.OpenSpec := { _root_.Go.OpenSpec.ofChange s with cond := some uptoSmall }

/-- 'laws.FnExactIsTrack', WHERE WHAT IT READS IS OF BULK AT MOST 1048576: true; the input reads as it did. -/
def fnExactIsTrackUptoRow : OpenClaim := { program := "ytdfcejijcnhcaaa", sum := "461435b0188210b66d1723e5e3960738ce2b280afcc547062dfa3ed90f5982b0", func := "loop.example/g03413/laws.FnExactIsTrack", spec := "fnExactIsTrack", apart := false, narrowed := true }
def FnExactIsTrackUptoSaid : Prop := fnExactIsTrackUptoRow.holds Try.pinned (OpenSpec.upto fnExactIsTrackSpec)

/-- 'laws.FnExactJoinTracks', WHERE WHAT IT READS IS OF BULK AT MOST 1048576: true; the input reads as it did. -/
def fnExactJoinTracksUptoRow : OpenClaim := { program := "ytdfcejijcnhcaaa", sum := "461435b0188210b66d1723e5e3960738ce2b280afcc547062dfa3ed90f5982b0", func := "loop.example/g03413/laws.FnExactJoinTracks", spec := "fnExactJoinTracks", apart := false, narrowed := true }
def FnExactJoinTracksUptoSaid : Prop := fnExactJoinTracksUptoRow.holds Try.pinned (OpenSpec.upto fnExactJoinTracksSpec)

/-- 'laws.FnExactMoveTrack', WHERE WHAT IT READS IS OF BULK AT MOST 1048576: true; the input reads as it did. -/
def fnExactMoveTrackUptoRow : OpenClaim := { program := "ytdfcejijcnhcaaa", sum := "461435b0188210b66d1723e5e3960738ce2b280afcc547062dfa3ed90f5982b0", func := "loop.example/g03413/laws.FnExactMoveTrack", spec := "fnExactMoveTrack", apart := false, narrowed := true }
def FnExactMoveTrackUptoSaid : Prop := fnExactMoveTrackUptoRow.holds Try.pinned (OpenSpec.upto fnExactMoveTrackSpec)

/-- 'laws.FnExactSpeedOf', WHERE WHAT IT READS IS OF BULK AT MOST 1048576: true; the input reads as it did. -/
def fnExactSpeedOfUptoRow : OpenClaim := { program := "ytdfcejijcnhcaaa", sum := "461435b0188210b66d1723e5e3960738ce2b280afcc547062dfa3ed90f5982b0", func := "loop.example/g03413/laws.FnExactSpeedOf", spec := "fnExactSpeedOf", apart := false, narrowed := true }
def FnExactSpeedOfUptoSaid : Prop := fnExactSpeedOfUptoRow.holds Try.pinned (OpenSpec.upto fnExactSpeedOfSpec)

/-- 'laws.FnExactMoveCell', WHERE WHAT IT READS IS OF BULK AT MOST 1048576: true; the input reads as it did. -/
def fnExactMoveCellUptoRow : OpenClaim := { program := "ytdfcejijcnhcaaa", sum := "461435b0188210b66d1723e5e3960738ce2b280afcc547062dfa3ed90f5982b0", func := "loop.example/g03413/laws.FnExactMoveCell", spec := "fnExactMoveCell", apart := false, narrowed := true }
def FnExactMoveCellUptoSaid : Prop := fnExactMoveCellUptoRow.holds Try.pinned (OpenSpec.upto fnExactMoveCellSpec)

/-- 'laws.FnMoved', WHERE WHAT IT READS IS OF BULK AT MOST 1048576: true; the input reads as it did. -/
def fnMovedUptoRow : OpenClaim := { program := "ytdfcejijcnhcaaa", sum := "461435b0188210b66d1723e5e3960738ce2b280afcc547062dfa3ed90f5982b0", func := "loop.example/g03413/laws.FnMoved", spec := "fnMoved", apart := false, narrowed := true }
def FnMovedUptoSaid : Prop := fnMovedUptoRow.holds Try.pinned (OpenSpec.upto fnMovedSpec)

/-- 'laws.FnExactPositionAt', WHERE WHAT IT READS IS OF BULK AT MOST 1048576: true; the input reads as it did. -/
def fnExactPositionAtUptoRow : OpenClaim := { program := "ytdfcejijcnhcaaa", sum := "461435b0188210b66d1723e5e3960738ce2b280afcc547062dfa3ed90f5982b0", func := "loop.example/g03413/laws.FnExactPositionAt", spec := "fnExactPositionAt", apart := false, narrowed := true }
def FnExactPositionAtUptoSaid : Prop := fnExactPositionAtUptoRow.holds Try.pinned (OpenSpec.upto fnExactPositionAtSpec)

/-- 'laws.FnExactCutTrack', WHERE WHAT IT READS IS OF BULK AT MOST 1048576: true; the input reads as it did. -/
def fnExactCutTrackUptoRow : OpenClaim := { program := "ytdfcejijcnhcaaa", sum := "461435b0188210b66d1723e5e3960738ce2b280afcc547062dfa3ed90f5982b0", func := "loop.example/g03413/laws.FnExactCutTrack", spec := "fnExactCutTrack", apart := false, narrowed := true }
def FnExactCutTrackUptoSaid : Prop := fnExactCutTrackUptoRow.holds Try.pinned (OpenSpec.upto fnExactCutTrackSpec)

/-- 'laws.FnCuts', WHERE WHAT IT READS IS OF BULK AT MOST 1048576: true; the input reads as it did. -/
def fnCutsUptoRow : OpenClaim := { program := "ytdfcejijcnhcaaa", sum := "461435b0188210b66d1723e5e3960738ce2b280afcc547062dfa3ed90f5982b0", func := "loop.example/g03413/laws.FnCuts", spec := "fnCuts", apart := false, narrowed := true }
def FnCutsUptoSaid : Prop := fnCutsUptoRow.holds Try.pinned (OpenSpec.upto fnCutsSpec)

/-- 'laws.FnExactIsOp', WHERE WHAT IT READS IS OF BULK AT MOST 1048576: true; the input reads as it did. -/
def fnExactIsOpUptoRow : OpenClaim := { program := "ytdfcejijcnhcaaa", sum := "461435b0188210b66d1723e5e3960738ce2b280afcc547062dfa3ed90f5982b0", func := "loop.example/g03413/laws.FnExactIsOp", spec := "fnExactIsOp", apart := false, narrowed := true }
def FnExactIsOpUptoSaid : Prop := fnExactIsOpUptoRow.holds Try.pinned (OpenSpec.upto fnExactIsOpSpec)

end Rows
end Go.Proofs.Ytdfcejijcnhcaaa
