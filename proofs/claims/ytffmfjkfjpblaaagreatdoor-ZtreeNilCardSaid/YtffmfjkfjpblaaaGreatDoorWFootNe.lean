-- A text of the kit's printer, of which only what this claim uses is left (cut by prune.py).
import Derived.Test.YtffmfjkfjpblaaaGreatDoorWN
/-! ### 52. A row that stays read whatever happens to a block (a set of blocks) doesn't lie there -/
namespace Go.Proofs.YtffmfjkfjpblaaaGreatDoorW.PrintWords
open Go.RowKit
namespace Kd
section
variable {α : Type} {d : Kd α} {W : World} {g n : Nat} {S ok : Nat → Prop} {A : Option Addr} {ad : Addr} {xs : List α}
end
end Kd
end Go.Proofs.YtffmfjkfjpblaaaGreatDoorW.PrintWords
