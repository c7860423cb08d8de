/-
  No cell of these rows narrows 'for every input' (looked for: loops, veiled, ifaces, maps, wideKeys, modest, calm, conditions, laid).
  DERIVED. THE GIVEN ROWS OF THIS SEAT. 5 by the template 'for every input the law returns true; each argument reads behind the call as it read before'; 0 by the template 'total and deterministic' (their statements: YtjccadhifgkdbaaTotals.lean).
  GIVEN WITH THE SEED: the statements are not yours to turn. If you find one false, say at which input.
  Laid BY PROGRAM, IN A SANDBOX (cutbox-rows.mjs): the forced cells as the released guide's own fill.sh prints them over the translation 4334a63d197727d0… (all of the seat's roots in one cut). By AI agents, Wed Nov 11 2026. No macro, syntax, notation, axiom, sorry.
-/
import Derived.Test.YtjccadhifgkdbaaChecked
import GoSem.Claim
import GoSem.ClaimJoined
import GoSem.ClaimMapViews
import Derived.JoinedTies
import Derived.KernelRfl
namespace Go.Proofs.Ytjccadhifgkdbaa
/- THE CELL 'sum', in the pinned program and in every row, IS THE sha256 OF THE DUMP (.gsa) THAT YtjccadhifgkdbaaProg.lean LOADS. Nothing in Lean hashes anything: it is a label: what it is worth is what the hold of that sum in a sandbox is worth. -/
noncomputable def Try.pinned : Pinned := { name := "ytjccadhifgkdbaa", sum := "4334a63d197727d0b0e7f1a8f2f6233ca64dd76cf21ec96ca28af6f94d7cb5ae", checked := Try.checked }
namespace Rows
def none {H : Type} : Left H := { results := [], args := [] }

/-- 'laws.FnExactNewStore': WHATEVER THE INPUT: true; the input reads as it did. -/
def fnExactNewStoreSpec : ChangeSpec := { name := "fnExactNewStore", fn := fun _ => fun
  | [d1, d2] => { results := [.lit (.bool true)], args := [d1, d2] }
  | _ => none }
def fnExactNewStoreRow : OpenClaim := { program := "ytjccadhifgkdbaa", sum := "4334a63d197727d0b0e7f1a8f2f6233ca64dd76cf21ec96ca28af6f94d7cb5ae", func := "loop.example/g03413/laws.FnExactNewStore", spec := "fnExactNewStore", apart := false }
def FnExactNewStoreSaid : Prop := fnExactNewStoreRow.holds Try.pinned (OpenSpec.ofChange fnExactNewStoreSpec)

/-- ITS FALSE NEIGHBOUR: 'it returns false'. Refute it at one input. -/
def fnExactNewStoreWrong : ChangeSpec := { name := "fnExactNewStore", fn := fun _ => fun
  | [d1, d2] => { results := [.lit (.bool false)], args := [d1, d2] }
  | _ => none }
def FnExactNewStoreWrongFalsely : Prop := fnExactNewStoreRow.holds Try.pinned (OpenSpec.ofChange fnExactNewStoreWrong)

/-- 'laws.FnExactIsPositive': WHATEVER THE INPUT: true; the input reads as it did. -/
def fnExactIsPositiveSpec : ChangeSpec := { name := "fnExactIsPositive", fn := fun _ => fun
  | [d1, d2] => { results := [.lit (.bool true)], args := [d1, d2] }
  | _ => none }
def fnExactIsPositiveRow : OpenClaim := { program := "ytjccadhifgkdbaa", sum := "4334a63d197727d0b0e7f1a8f2f6233ca64dd76cf21ec96ca28af6f94d7cb5ae", func := "loop.example/g03413/laws.FnExactIsPositive", spec := "fnExactIsPositive", apart := false }
def FnExactIsPositiveSaid : Prop := fnExactIsPositiveRow.holds Try.pinned (OpenSpec.ofChange fnExactIsPositiveSpec)

/-- ITS FALSE NEIGHBOUR: 'it returns false'. Refute it at one input. -/
def fnExactIsPositiveWrong : ChangeSpec := { name := "fnExactIsPositive", fn := fun _ => fun
  | [d1, d2] => { results := [.lit (.bool false)], args := [d1, d2] }
  | _ => none }
def FnExactIsPositiveWrongFalsely : Prop := fnExactIsPositiveRow.holds Try.pinned (OpenSpec.ofChange fnExactIsPositiveWrong)

/-- 'laws.FnExactIsRule': WHATEVER THE INPUT: true; the input reads as it did. -/
def fnExactIsRuleSpec : ChangeSpec := { name := "fnExactIsRule", fn := fun _ => fun
  | [d1, d2] => { results := [.lit (.bool true)], args := [d1, d2] }
  | _ => none }
def fnExactIsRuleRow : OpenClaim := { program := "ytjccadhifgkdbaa", sum := "4334a63d197727d0b0e7f1a8f2f6233ca64dd76cf21ec96ca28af6f94d7cb5ae", func := "loop.example/g03413/laws.FnExactIsRule", spec := "fnExactIsRule", recurses := true, apart := false }
def FnExactIsRuleSaid : Prop := fnExactIsRuleRow.holds Try.pinned (OpenSpec.ofChange fnExactIsRuleSpec)

/-- ITS FALSE NEIGHBOUR: 'it returns false'. Refute it at one input. -/
def fnExactIsRuleWrong : ChangeSpec := { name := "fnExactIsRule", fn := fun _ => fun
  | [d1, d2] => { results := [.lit (.bool false)], args := [d1, d2] }
  | _ => none }
def FnExactIsRuleWrongFalsely : Prop := fnExactIsRuleRow.holds Try.pinned (OpenSpec.ofChange fnExactIsRuleWrong)

/-- 'laws.FnExactNewHouse': WHATEVER THE INPUT: true; the input reads as it did. -/
def fnExactNewHouseSpec : ChangeSpec := { name := "fnExactNewHouse", fn := fun _ => fun
  | [] => { results := [.lit (.bool true)], args := [] }
  | _ => none }
def fnExactNewHouseRow : OpenClaim := { program := "ytjccadhifgkdbaa", sum := "4334a63d197727d0b0e7f1a8f2f6233ca64dd76cf21ec96ca28af6f94d7cb5ae", func := "loop.example/g03413/laws.FnExactNewHouse", spec := "fnExactNewHouse", apart := false }
def FnExactNewHouseSaid : Prop := fnExactNewHouseRow.holds Try.pinned (OpenSpec.ofChange fnExactNewHouseSpec)

/-- ITS FALSE NEIGHBOUR: 'it returns false'. Refute it at one input. -/
def fnExactNewHouseWrong : ChangeSpec := { name := "fnExactNewHouse", fn := fun _ => fun
  | [] => { results := [.lit (.bool false)], args := [] }
  | _ => none }
def FnExactNewHouseWrongFalsely : Prop := fnExactNewHouseRow.holds Try.pinned (OpenSpec.ofChange fnExactNewHouseWrong)

/-- 'laws.FnExactIsView': WHATEVER THE INPUT: true; the input reads as it did. -/
def fnExactIsViewSpec : ChangeSpec := { name := "fnExactIsView", fn := fun _ => fun
  | [d1, d2] => { results := [.lit (.bool true)], args := [d1, d2] }
  | _ => none }
def fnExactIsViewRow : OpenClaim := { program := "ytjccadhifgkdbaa", sum := "4334a63d197727d0b0e7f1a8f2f6233ca64dd76cf21ec96ca28af6f94d7cb5ae", func := "loop.example/g03413/laws.FnExactIsView", spec := "fnExactIsView", apart := false }
def FnExactIsViewSaid : Prop := fnExactIsViewRow.holds Try.pinned (OpenSpec.ofChange fnExactIsViewSpec)

/-- ITS FALSE NEIGHBOUR: 'it returns false'. Refute it at one input. -/
def fnExactIsViewWrong : ChangeSpec := { name := "fnExactIsView", fn := fun _ => fun
  | [d1, d2] => { results := [.lit (.bool false)], args := [d1, d2] }
  | _ => none }
def FnExactIsViewWrongFalsely : Prop := fnExactIsViewRow.holds Try.pinned (OpenSpec.ofChange fnExactIsViewWrong)

/- THE SECOND FORM. 'bulk': how many values and letters a reading holds, each counted each time it is reached (what is shared counts as often as it is met; a slice's spare places count too). A statement '..UptoSaid' is the law's where the arguments, and the package variables that the reading takes, are together of bulk at most 1048576: NARROWER than '..Said'. Prove '..Said' where nothing that the law and all that it calls make is longer than what came in: it says more and counts as full. Else prove '..UptoSaid'. A law counts once. -/
mutual
def uptoBulk {H : Type} : DataW H → Nat
  | .lit (.string bytes) => bytes.length + 1
  | .lit _ => 1
  | .nil => 1
  | .ptr d => uptoBulk d + 1
  | .slice elems spare => uptoBulkAll elems + uptoBulkAll spare + 1
  | .agg parts => uptoBulkAll parts + 1
  | .iface _ d => uptoBulk d + 1
  | .map entries => uptoBulkEntries entries + 1
  | .held _ => 1
def uptoBulkAll {H : Type} : List (DataW H) → Nat
  | [] => 0
  | d :: r => uptoBulk d + uptoBulkAll r
def uptoBulkEntries {H : Type} : List (Lit × DataW H) → Nat
  | [] => 0
  | x :: r => uptoBulkEntry x + uptoBulkEntries r
def uptoBulkEntry {H : Type} : Lit × DataW H → Nat
  | (.string bytes, d) => bytes.length + uptoBulk d + 1
  | (_, d) => uptoBulk d + 1
 end
def uptoSmall : (H : Type) → List (DataW H) → Bool := fun _ ds => decide (uptoBulkAll ds ≤ 1048576)
def OpenSpec.upto (s : _root_.Go.ChangeSpec) : _root_.Go.OpenSpec := { _root_.Go.OpenSpec.ofChange s with cond := some uptoSmall }

/-- 'laws.FnExactNewStore', WHERE WHAT IT READS IS OF BULK AT MOST 1048576: true; the input reads as it did. -/
def fnExactNewStoreUptoRow : OpenClaim := { program := "ytjccadhifgkdbaa", sum := "4334a63d197727d0b0e7f1a8f2f6233ca64dd76cf21ec96ca28af6f94d7cb5ae", func := "loop.example/g03413/laws.FnExactNewStore", spec := "fnExactNewStore", apart := false, narrowed := true }
def FnExactNewStoreUptoSaid : Prop := fnExactNewStoreUptoRow.holds Try.pinned (OpenSpec.upto fnExactNewStoreSpec)

/-- 'laws.FnExactIsPositive', WHERE WHAT IT READS IS OF BULK AT MOST 1048576: true; the input reads as it did. -/
def fnExactIsPositiveUptoRow : OpenClaim := { program := "ytjccadhifgkdbaa", sum := "4334a63d197727d0b0e7f1a8f2f6233ca64dd76cf21ec96ca28af6f94d7cb5ae", func := "loop.example/g03413/laws.FnExactIsPositive", spec := "fnExactIsPositive", apart := false, narrowed := true }
def FnExactIsPositiveUptoSaid : Prop := fnExactIsPositiveUptoRow.holds Try.pinned (OpenSpec.upto fnExactIsPositiveSpec)

/-- 'laws.FnExactIsRule', WHERE WHAT IT READS IS OF BULK AT MOST 1048576: true; the input reads as it did. -/
def fnExactIsRuleUptoRow : OpenClaim := { program := "ytjccadhifgkdbaa", sum := "4334a63d197727d0b0e7f1a8f2f6233ca64dd76cf21ec96ca28af6f94d7cb5ae", func := "loop.example/g03413/laws.FnExactIsRule", spec := "fnExactIsRule", recurses := true, apart := false, narrowed := true }
def FnExactIsRuleUptoSaid : Prop := fnExactIsRuleUptoRow.holds Try.pinned (OpenSpec.upto fnExactIsRuleSpec)

/-- 'laws.FnExactNewHouse', WHERE WHAT IT READS IS OF BULK AT MOST 1048576: true; the input reads as it did. -/
def fnExactNewHouseUptoRow : OpenClaim := { program := "ytjccadhifgkdbaa", sum := "4334a63d197727d0b0e7f1a8f2f6233ca64dd76cf21ec96ca28af6f94d7cb5ae", func := "loop.example/g03413/laws.FnExactNewHouse", spec := "fnExactNewHouse", apart := false, narrowed := true }
def FnExactNewHouseUptoSaid : Prop := fnExactNewHouseUptoRow.holds Try.pinned (OpenSpec.upto fnExactNewHouseSpec)

/-- 'laws.FnExactIsView', WHERE WHAT IT READS IS OF BULK AT MOST 1048576: true; the input reads as it did. -/
def fnExactIsViewUptoRow : OpenClaim := { program := "ytjccadhifgkdbaa", sum := "4334a63d197727d0b0e7f1a8f2f6233ca64dd76cf21ec96ca28af6f94d7cb5ae", func := "loop.example/g03413/laws.FnExactIsView", spec := "fnExactIsView", apart := false, narrowed := true }
def FnExactIsViewUptoSaid : Prop := fnExactIsViewUptoRow.holds Try.pinned (OpenSpec.upto fnExactIsViewSpec)

end Rows
end Go.Proofs.Ytjccadhifgkdbaa
