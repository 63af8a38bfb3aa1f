/-
  DERIVED. GIVEN WITH THE SEED: THE CARDS: each row of YthopfmokkpoabaaGreatDoorRows.lean that lists a variable, with what it lists TIED to the program's text (the seventh form; the later family's looks); each row that meets fmt, with fmt's text TOLD by the authors' own Lean function (tested against real Go, not proved from fmt's source: count such statements apart). THE CARD IS WHAT COUNTS. Prove the row's statement (the work); the ties are given (YthopfmokkpoabaaGreatDoorTie.lean); close each card by the builder's one call (the guide's Derived/Test/ToyasCard.lean, 'card_holds'). Laid BY PROGRAM, IN A SANDBOX (cutbox-door.mjs). By AI agents, Wed Nov 11 2026. No macro, syntax, notation, axiom, sorry.
-/
import Derived.Test.YthopfmokkpoabaaGreatDoorRows
import GoSem.ClaimSeven
namespace Go.Proofs.YthopfmokkpoabaaGreatDoor
namespace Rows

/-- THE TIED CARD OF 'lagoonlaw08.DigestNodes'. -/
def digestNodesCard : Claim7 := { stood := { row := digestNodesRow, standIns := [], harness := (true, "fef36adde9affe981fca456411a6744b622d1df21d4071e73207f5e2348cc178"), looks := true }, kinds := [], alts := [], laidByText := true, laidKinds := [.data, .data, .data, .data, .sentinel, .sentinel, .data, .pinned], laidTests := true, laidLooks := .later }
def DigestNodesCardSaid : Prop := Claim7.holds Tryz.pinned (.plain (OpenSpec.ofChange digestNodesSpec)) digestNodesCard

/-- THE SECOND FORM's CARD OF 'lagoonlaw08.DigestNodes'. -/
def digestNodesUptoCard : Claim7 := { stood := { row := digestNodesUptoRow, standIns := [], harness := (true, "fef36adde9affe981fca456411a6744b622d1df21d4071e73207f5e2348cc178"), looks := true }, kinds := [], alts := [], laidByText := true, laidKinds := [.data, .data, .data, .data, .sentinel, .sentinel, .data, .pinned], laidTests := true, laidLooks := .later }
def DigestNodesUptoCardSaid : Prop := Claim7.holds Tryz.pinned (.plain (OpenSpec.upto digestNodesSpec)) digestNodesUptoCard
end Rows
end Go.Proofs.YthopfmokkpoabaaGreatDoor
