/-
  No cell of these rows narrows 'for every input' (looked for: loops, veiled, ifaces, maps, wideKeys, modest, calm, conditions, laid).
  DERIVED. THE GIVEN ROWS OF THIS SEAT. 3 by the template 'for every input the law returns true; each argument reads behind the call as it read before'; 0 by the template 'total and deterministic' (their statements: YthfgcmoipebheaaGreatTotals.lean).
  GIVEN WITH THE SEED: the statements are not yours to turn. If you find one false, say at which input.
  Laid BY PROGRAM, IN A SANDBOX (cutbox-rows.mjs): the forced cells as the released guide's own fill.sh prints them over the translation 1c1597a5a1fe0915… (all of the seat's roots in one cut). By AI agents, Wed Nov 11 2026. No macro, syntax, notation, axiom, sorry.
-/
import Derived.Test.YthfgcmoipebheaaGreatChecked
import GoSem.Claim
import GoSem.ClaimJoined
import GoSem.ClaimMapViews
import Derived.JoinedTies
import Derived.KernelRfl
namespace Go.Proofs.YthfgcmoipebheaaGreat
/- THE CELL 'sum', in the pinned program and in every row, IS THE sha256 OF THE DUMP (.gsa) THAT YthfgcmoipebheaaGreatProg.lean LOADS. Nothing in Lean hashes anything: it is a label: what it is worth is what the hold of that sum in a sandbox is worth. -/
noncomputable def Tryz.pinned : Pinned := { name := "ythfgcmoipebheaagreat", sum := "1c1597a5a1fe09154fd6e594f98ca430aedb9b5843897bc771e5aca75395e22b", checked := Tryz.checked }
namespace Rows
def none {H : Type} : Left H := { results := [], args := [] }

/-- 'laws.FnExactSupportsOf': WHATEVER THE INPUT: true; the input reads as it did. -/
def fnExactSupportsOfSpec : ChangeSpec := { name := "fnExactSupportsOf", fn := fun _ => fun
  | [d1, d2] => { results := [.lit (.bool true)], args := [d1, d2] }
  | _ => none }
def fnExactSupportsOfRow : OpenClaim := { program := "ythfgcmoipebheaagreat", sum := "1c1597a5a1fe09154fd6e594f98ca430aedb9b5843897bc771e5aca75395e22b", func := "loop.example/g03413/laws.FnExactSupportsOf", spec := "fnExactSupportsOf", unfollowed := true, recurses := true, apart := false }
def FnExactSupportsOfSaid : Prop := fnExactSupportsOfRow.holds Tryz.pinned (OpenSpec.ofChange fnExactSupportsOfSpec)

/-- ITS FALSE NEIGHBOUR: 'it returns false'. Refute it at one input. -/
def fnExactSupportsOfWrong : ChangeSpec := { name := "fnExactSupportsOf", fn := fun _ => fun
  | [d1, d2] => { results := [.lit (.bool false)], args := [d1, d2] }
  | _ => none }
def FnExactSupportsOfWrongFalsely : Prop := fnExactSupportsOfRow.holds Tryz.pinned (OpenSpec.ofChange fnExactSupportsOfWrong)

/-- 'laws.FnExactNewView': WHATEVER THE INPUT: true; the input reads as it did. -/
def fnExactNewViewSpec : ChangeSpec := { name := "fnExactNewView", fn := fun _ => fun
  | [d1, d2] => { results := [.lit (.bool true)], args := [d1, d2] }
  | _ => none }
def fnExactNewViewRow : OpenClaim := { program := "ythfgcmoipebheaagreat", sum := "1c1597a5a1fe09154fd6e594f98ca430aedb9b5843897bc771e5aca75395e22b", func := "loop.example/g03413/laws.FnExactNewView", spec := "fnExactNewView", unfollowed := true, recurses := true, apart := false }
def FnExactNewViewSaid : Prop := fnExactNewViewRow.holds Tryz.pinned (OpenSpec.ofChange fnExactNewViewSpec)

/-- ITS FALSE NEIGHBOUR: 'it returns false'. Refute it at one input. -/
def fnExactNewViewWrong : ChangeSpec := { name := "fnExactNewView", fn := fun _ => fun
  | [d1, d2] => { results := [.lit (.bool false)], args := [d1, d2] }
  | _ => none }
def FnExactNewViewWrongFalsely : Prop := fnExactNewViewRow.holds Tryz.pinned (OpenSpec.ofChange fnExactNewViewWrong)

/-- 'laws.FnExactViewAfterAdd': WHATEVER THE INPUT: true; the input reads as it did. -/
def fnExactViewAfterAddSpec : ChangeSpec := { name := "fnExactViewAfterAdd", fn := fun _ => fun
  | [d1, d2, d3] => { results := [.lit (.bool true)], args := [d1, d2, d3] }
  | _ => none }
def fnExactViewAfterAddRow : OpenClaim := { program := "ythfgcmoipebheaagreat", sum := "1c1597a5a1fe09154fd6e594f98ca430aedb9b5843897bc771e5aca75395e22b", func := "loop.example/g03413/laws.FnExactViewAfterAdd", spec := "fnExactViewAfterAdd", unfollowed := true, recurses := true, apart := false }
def FnExactViewAfterAddSaid : Prop := fnExactViewAfterAddRow.holds Tryz.pinned (OpenSpec.ofChange fnExactViewAfterAddSpec)

/-- ITS FALSE NEIGHBOUR: 'it returns false'. Refute it at one input. -/
def fnExactViewAfterAddWrong : ChangeSpec := { name := "fnExactViewAfterAdd", fn := fun _ => fun
  | [d1, d2, d3] => { results := [.lit (.bool false)], args := [d1, d2, d3] }
  | _ => none }
def FnExactViewAfterAddWrongFalsely : Prop := fnExactViewAfterAddRow.holds Tryz.pinned (OpenSpec.ofChange fnExactViewAfterAddWrong)

/- THE SECOND FORM. 'bulk': how many values and letters a reading holds, each counted each time it is reached (what is shared counts as often as it is met; a slice's spare places count too). A statement '..UptoSaid' is the law's where the arguments, and the package variables that the reading takes, are together of bulk at most 1048576: NARROWER than '..Said'. Prove '..Said' where nothing that the law and all that it calls make is longer than what came in: it says more and counts as full. Else prove '..UptoSaid'. A law counts once. -/
mutual
def uptoBulk {H : Type} : DataW H → Nat
  | .lit (.string bytes) => bytes.length + 1
  | .lit _ => 1
  | .nil => 1
  | .ptr d => uptoBulk d + 1
  | .slice elems spare => uptoBulkAll elems + uptoBulkAll spare + 1
  | .agg parts => uptoBulkAll parts + 1
  | .iface _ d => uptoBulk d + 1
  | .map entries => uptoBulkEntries entries + 1
  | .held _ => 1
def uptoBulkAll {H : Type} : List (DataW H) → Nat
  | [] => 0
  | d :: r => uptoBulk d + uptoBulkAll r
def uptoBulkEntries {H : Type} : List (Lit × DataW H) → Nat
  | [] => 0
  | x :: r => uptoBulkEntry x + uptoBulkEntries r
def uptoBulkEntry {H : Type} : Lit × DataW H → Nat
  | (.string bytes, d) => bytes.length + uptoBulk d + 1
  | (_, d) => uptoBulk d + 1
 end
def uptoSmall : (H : Type) → List (DataW H) → Bool := fun _ ds => decide (uptoBulkAll ds ≤ 1048576)
def OpenSpec.upto (s : _root_.Go.ChangeSpec) : _root_.Go.OpenSpec := { _root_.Go.OpenSpec.ofChange s with cond := some uptoSmall }

/-- 'laws.FnExactSupportsOf', WHERE WHAT IT READS IS OF BULK AT MOST 1048576: true; the input reads as it did. -/
def fnExactSupportsOfUptoRow : OpenClaim := { program := "ythfgcmoipebheaagreat", sum := "1c1597a5a1fe09154fd6e594f98ca430aedb9b5843897bc771e5aca75395e22b", func := "loop.example/g03413/laws.FnExactSupportsOf", spec := "fnExactSupportsOf", unfollowed := true, recurses := true, apart := false, narrowed := true }
def FnExactSupportsOfUptoSaid : Prop := fnExactSupportsOfUptoRow.holds Tryz.pinned (OpenSpec.upto fnExactSupportsOfSpec)

/-- 'laws.FnExactNewView', WHERE WHAT IT READS IS OF BULK AT MOST 1048576: true; the input reads as it did. -/
def fnExactNewViewUptoRow : OpenClaim := { program := "ythfgcmoipebheaagreat", sum := "1c1597a5a1fe09154fd6e594f98ca430aedb9b5843897bc771e5aca75395e22b", func := "loop.example/g03413/laws.FnExactNewView", spec := "fnExactNewView", unfollowed := true, recurses := true, apart := false, narrowed := true }
def FnExactNewViewUptoSaid : Prop := fnExactNewViewUptoRow.holds Tryz.pinned (OpenSpec.upto fnExactNewViewSpec)

/-- 'laws.FnExactViewAfterAdd', WHERE WHAT IT READS IS OF BULK AT MOST 1048576: true; the input reads as it did. -/
def fnExactViewAfterAddUptoRow : OpenClaim := { program := "ythfgcmoipebheaagreat", sum := "1c1597a5a1fe09154fd6e594f98ca430aedb9b5843897bc771e5aca75395e22b", func := "loop.example/g03413/laws.FnExactViewAfterAdd", spec := "fnExactViewAfterAdd", unfollowed := true, recurses := true, apart := false, narrowed := true }
def FnExactViewAfterAddUptoSaid : Prop := fnExactViewAfterAddUptoRow.holds Tryz.pinned (OpenSpec.upto fnExactViewAfterAddSpec)

end Rows
end Go.Proofs.YthfgcmoipebheaaGreat
