/-
  DERIVED. GIVEN WITH THE SEED: THE CARDS: each row of YtpgiplnglpimjabGreatDoorRows.lean that lists a variable, with what it lists TIED to the program's text (the seventh form; the later family's looks); each row that meets fmt, with fmt's text TOLD by the authors' own Lean function (tested against real Go, not proved from fmt's source: count such statements apart). THE CARD IS WHAT COUNTS. Prove the row's statement (the work); the ties are given (YtpgiplnglpimjabGreatDoorTie.lean); close each card by the builder's one call (the guide's Derived/Test/ToyasCard.lean, 'card_holds'). Laid BY PROGRAM, IN A SANDBOX (cutbox-door.mjs). By AI agents, Wed Nov 11 2026. No macro, syntax, notation, axiom, sorry.
-/
import Derived.Test.YtpgiplnglpimjabGreatDoorRows
import GoSem.ClaimSeven
namespace Go.Proofs.YtpgiplnglpimjabGreatDoor
namespace Rows

/-- THE TIED CARD OF 'lagoonlaw08.DigestTurns'. -/
def digestTurnsCard : Claim7 := { stood := { row := digestTurnsRow, standIns := [], harness := (true, "3a4b617afac053db738297e54b2650e184bcc3f8372dc4ad5f89aac09f3a3660"), looks := true }, kinds := [], alts := [], laidByText := true, laidKinds := [.data, .data, .data, .data, .sentinel, .sentinel, .data, .pinned], laidTests := true, laidLooks := .later }
def DigestTurnsCardSaid : Prop := Claim7.holds Tryz.pinned (.plain (OpenSpec.ofChange digestTurnsSpec)) digestTurnsCard

/-- THE SECOND FORM's CARD OF 'lagoonlaw08.DigestTurns'. -/
def digestTurnsUptoCard : Claim7 := { stood := { row := digestTurnsUptoRow, standIns := [], harness := (true, "3a4b617afac053db738297e54b2650e184bcc3f8372dc4ad5f89aac09f3a3660"), looks := true }, kinds := [], alts := [], laidByText := true, laidKinds := [.data, .data, .data, .data, .sentinel, .sentinel, .data, .pinned], laidTests := true, laidLooks := .later }
def DigestTurnsUptoCardSaid : Prop := Claim7.holds Tryz.pinned (.plain (OpenSpec.upto digestTurnsSpec)) digestTurnsUptoCard
end Rows
end Go.Proofs.YtpgiplnglpimjabGreatDoor
