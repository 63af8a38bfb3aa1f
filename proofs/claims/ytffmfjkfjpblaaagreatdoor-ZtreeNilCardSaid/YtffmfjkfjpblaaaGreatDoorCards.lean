/-
  DERIVED. GIVEN WITH THE SEED: THE CARDS: each row of YtffmfjkfjpblaaaGreatDoorRows.lean that lists a variable, with what it lists TIED to the program's text (the seventh form; the later family's looks); each row that meets fmt, with fmt's text TOLD by the authors' own Lean function (tested against real Go, not proved from fmt's source: count such statements apart). THE CARD IS WHAT COUNTS. Prove the row's statement (the work); the ties are given (YtffmfjkfjpblaaaGreatDoorTie.lean); close each card by the builder's one call (the guide's Derived/Test/ToyasCard.lean, 'card_holds'). Laid BY PROGRAM, IN A SANDBOX (cutbox-door.mjs). By AI agents, Wed Nov 11 2026. No macro, syntax, notation, axiom, sorry.
-/
import Derived.Test.YtffmfjkfjpblaaaGreatDoorRows
import GoSem.ClaimSeven
namespace Go.Proofs.YtffmfjkfjpblaaaGreatDoor
namespace Rows

/-- THE TIED CARD OF 'lagoonlaw07.ZtreeNil'. -/
def ztreeNilCard : Claim7 := { stood := { row := ztreeNilRow, standIns := [], harness := (true, "1b12727c61d8c280e7ae76afb1f0f6b19011e2050fa867fd897a706f6bd3542c"), looks := true }, kinds := [], alts := [], laidByText := true, laidKinds := [.data, .data, .data, .data, .sentinel, .sentinel, .data, .pinned], laidTests := true, laidLooks := .later }
def ZtreeNilCardSaid : Prop := Claim7.holds Tryz.pinned (.plain (OpenSpec.ofChange ztreeNilSpec)) ztreeNilCard

/-- THE SECOND FORM's CARD OF 'lagoonlaw07.ZtreeNil'. -/
def ztreeNilUptoCard : Claim7 := { stood := { row := ztreeNilUptoRow, standIns := [], harness := (true, "1b12727c61d8c280e7ae76afb1f0f6b19011e2050fa867fd897a706f6bd3542c"), looks := true }, kinds := [], alts := [], laidByText := true, laidKinds := [.data, .data, .data, .data, .sentinel, .sentinel, .data, .pinned], laidTests := true, laidLooks := .later }
def ZtreeNilUptoCardSaid : Prop := Claim7.holds Tryz.pinned (.plain (OpenSpec.upto ztreeNilSpec)) ztreeNilUptoCard
end Rows
end Go.Proofs.YtffmfjkfjpblaaaGreatDoor
