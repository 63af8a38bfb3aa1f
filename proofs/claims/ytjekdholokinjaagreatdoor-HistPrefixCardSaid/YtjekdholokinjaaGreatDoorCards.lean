/-
  DERIVED. GIVEN WITH THE SEED: THE CARDS: each row of YtjekdholokinjaaGreatDoorRows.lean that lists a variable, with what it lists TIED to the program's text (the seventh form; the later family's looks); each row that meets fmt, with fmt's text TOLD by the authors' own Lean function (tested against real Go, not proved from fmt's source: count such statements apart). THE CARD IS WHAT COUNTS. Prove the row's statement (the work); the ties are given (YtjekdholokinjaaGreatDoorTie.lean); close each card by the builder's one call (the guide's Derived/Test/ToyasCard.lean, 'card_holds'). Laid BY PROGRAM, IN A SANDBOX (cutbox-door.mjs). By AI agents, Wed Nov 11 2026. No macro, syntax, notation, axiom, sorry.
-/
import Derived.Test.YtjekdholokinjaaGreatDoorRows
import GoSem.ClaimSeven
namespace Go.Proofs.YtjekdholokinjaaGreatDoor
namespace Rows

/-- THE TIED CARD OF 'lagoonlaw27.HistPrefix'. -/
def histPrefixCard : Claim7 := { stood := { row := histPrefixRow, standIns := [], harness := (true, "c29c7bacebdd2ef1acab922029dddd6763da4d8b0e6e5f7e1ac8d6fd13cec8eb"), looks := true }, kinds := [], alts := [], laidByText := true, laidKinds := [.data, .data, .data, .data, .sentinel, .sentinel, .data, .pinned], laidTests := true, laidLooks := .later }
def HistPrefixCardSaid : Prop := Claim7.holds Tryz.pinned (.plain (OpenSpec.ofChange histPrefixSpec)) histPrefixCard

/-- THE SECOND FORM's CARD OF 'lagoonlaw27.HistPrefix'. -/
def histPrefixUptoCard : Claim7 := { stood := { row := histPrefixUptoRow, standIns := [], harness := (true, "c29c7bacebdd2ef1acab922029dddd6763da4d8b0e6e5f7e1ac8d6fd13cec8eb"), looks := true }, kinds := [], alts := [], laidByText := true, laidKinds := [.data, .data, .data, .data, .sentinel, .sentinel, .data, .pinned], laidTests := true, laidLooks := .later }
def HistPrefixUptoCardSaid : Prop := Claim7.holds Tryz.pinned (.plain (OpenSpec.upto histPrefixSpec)) histPrefixUptoCard
end Rows
end Go.Proofs.YtjekdholokinjaaGreatDoor
