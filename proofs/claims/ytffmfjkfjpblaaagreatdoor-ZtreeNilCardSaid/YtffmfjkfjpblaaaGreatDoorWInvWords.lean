-- A text of the kit's printer, of which only what this claim uses is left (cut by prune.py).
import Derived.Test.YtffmfjkfjpblaaaGreatDoorWInv
import Derived.Test.YtffmfjkfjpblaaaGreatDoorWFootNe
namespace Go.Proofs.YtffmfjkfjpblaaaGreatDoorW.PrintWords
open Go.RowKit
end Go.Proofs.YtffmfjkfjpblaaaGreatDoorW.PrintWords
namespace Go.Proofs.YtffmfjkfjpblaaaGreatDoorW.PrintLast
section
variable {ops : Array Oper} {a : Act} {o og : Oper} {g : Nat} {t : Tmp} {u : Bool}
end
end Go.Proofs.YtffmfjkfjpblaaaGreatDoorW.PrintLast
