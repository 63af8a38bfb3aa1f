/-
  DERIVED. GIVEN WITH THE SEED: THE CARDS: each row of YtpgpbaalnmdlaaaGreatDoorRows.lean that lists a variable, with what it lists TIED to the program's text (the seventh form; the later family's looks); each row that meets fmt, with fmt's text TOLD by the authors' own Lean function (tested against real Go, not proved from fmt's source: count such statements apart). THE CARD IS WHAT COUNTS. Prove the row's statement (the work); the ties are given (YtpgpbaalnmdlaaaGreatDoorTie.lean); close each card by the builder's one call (the guide's Derived/Test/ToyasCard.lean, 'card_holds'). Laid BY PROGRAM, IN A SANDBOX (cutbox-door.mjs). By AI agents, Wed Nov 11 2026. No macro, syntax, notation, axiom, sorry.
-/
import Derived.Test.YtpgpbaalnmdlaaaGreatDoorRows
import GoSem.ClaimSeven
namespace Go.Proofs.YtpgpbaalnmdlaaaGreatDoor
namespace Rows

/-- THE TIED CARD OF 'lagoonlaw17.LearnNone'. -/
def learnNoneCard : Claim7 := { stood := { row := learnNoneRow, standIns := [], harness := (true, "5777fdc5fd9195954fb62bc24002bc015fca02c63840803c0787ff3dd5e8dc89"), looks := true }, kinds := [], alts := [], laidByText := true, laidKinds := [.data, .data, .data, .data, .sentinel, .sentinel, .data, .data, .pinned], laidTests := true, laidLooks := .later }
def LearnNoneCardSaid : Prop := Claim7.holds Tryz.pinned (.plain (OpenSpec.ofChange learnNoneSpec)) learnNoneCard

/-- THE SECOND FORM's CARD OF 'lagoonlaw17.LearnNone'. -/
def learnNoneUptoCard : Claim7 := { stood := { row := learnNoneUptoRow, standIns := [], harness := (true, "5777fdc5fd9195954fb62bc24002bc015fca02c63840803c0787ff3dd5e8dc89"), looks := true }, kinds := [], alts := [], laidByText := true, laidKinds := [.data, .data, .data, .data, .sentinel, .sentinel, .data, .data, .pinned], laidTests := true, laidLooks := .later }
def LearnNoneUptoCardSaid : Prop := Claim7.holds Tryz.pinned (.plain (OpenSpec.upto learnNoneSpec)) learnNoneUptoCard
end Rows
end Go.Proofs.YtpgpbaalnmdlaaaGreatDoor
