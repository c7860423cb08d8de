/-
  DERIVED. GIVEN WITH THE SEED: THE CARDS: each row of YtamkkancfmbanaaDoorRows.lean that lists a variable, with what it lists TIED to the program's text (the seventh form; the later family's looks); each row that meets fmt, with fmt's text TOLD by the authors' own Lean function (tested against real Go, not proved from fmt's source: count such statements apart). THE CARD IS WHAT COUNTS. Prove the row's statement (the work); the ties are given (YtamkkancfmbanaaDoorTie.lean); close each card by the builder's one call (the guide's Derived/Test/ToyasCard.lean, 'card_holds'). Laid BY PROGRAM, IN A SANDBOX (cutbox-door.mjs). By AI agents, Wed Nov 11 2026. No macro, syntax, notation, axiom, sorry.
-/
import Derived.Test.YtamkkancfmbanaaDoorRows
import GoSem.ClaimSeven
namespace Go.Proofs.YtamkkancfmbanaaDoor
namespace Rows

/-- THE TIED CARD OF 'laws.FnExactEntryOf'. -/
def fnExactEntryOfCard : Claim7 := { stood := { row := fnExactEntryOfRow, standIns := [], harness := (true, "22320c81f6bf445702dbad4c0c17c00eb8ec6d663aaa1110e12647103db97436"), looks := true }, kinds := [], alts := [], laidByText := true, laidKinds := [.data, .data, .data], laidTests := true, laidLooks := .later }
def FnExactEntryOfCardSaid : Prop := Claim7.holds Tryd.pinned (.plain (OpenSpec.ofChange fnExactEntryOfSpec)) fnExactEntryOfCard

/-- THE TIED CARD OF 'laws.FnExactReadEntry'. -/
def fnExactReadEntryCard : Claim7 := { stood := { row := fnExactReadEntryRow, standIns := [], harness := (true, "22320c81f6bf445702dbad4c0c17c00eb8ec6d663aaa1110e12647103db97436"), looks := true }, kinds := [], alts := [], laidByText := true, laidKinds := [.data, .data, .data, .sentinel, .sentinel], laidTests := true, laidLooks := .later }
def FnExactReadEntryCardSaid : Prop := Claim7.holds Tryd.pinned (.plain (OpenSpec.ofChange fnExactReadEntrySpec)) fnExactReadEntryCard

/-- THE SECOND FORM's CARD OF 'laws.FnExactEntryOf'. -/
def fnExactEntryOfUptoCard : Claim7 := { stood := { row := fnExactEntryOfUptoRow, standIns := [], harness := (true, "22320c81f6bf445702dbad4c0c17c00eb8ec6d663aaa1110e12647103db97436"), looks := true }, kinds := [], alts := [], laidByText := true, laidKinds := [.data, .data, .data], laidTests := true, laidLooks := .later }
def FnExactEntryOfUptoCardSaid : Prop := Claim7.holds Tryd.pinned (.plain (OpenSpec.upto fnExactEntryOfSpec)) fnExactEntryOfUptoCard

/-- THE SECOND FORM's CARD OF 'laws.FnExactReadEntry'. -/
def fnExactReadEntryUptoCard : Claim7 := { stood := { row := fnExactReadEntryUptoRow, standIns := [], harness := (true, "22320c81f6bf445702dbad4c0c17c00eb8ec6d663aaa1110e12647103db97436"), looks := true }, kinds := [], alts := [], laidByText := true, laidKinds := [.data, .data, .data, .sentinel, .sentinel], laidTests := true, laidLooks := .later }
def FnExactReadEntryUptoCardSaid : Prop := Claim7.holds Tryd.pinned (.plain (OpenSpec.upto fnExactReadEntrySpec)) fnExactReadEntryUptoCard
end Rows
end Go.Proofs.YtamkkancfmbanaaDoor
