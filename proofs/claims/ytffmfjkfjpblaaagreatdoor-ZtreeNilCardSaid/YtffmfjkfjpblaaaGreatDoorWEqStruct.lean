-- A text of the kit's printer, of which only what this claim uses is left (cut by prune.py).
import Derived.Test.YtffmfjkfjpblaaaGreatDoorWWords
import Derived.Laws.StructEq
/-! ### 53. '==' of structs as_ one Bool -/
namespace Go.Proofs.YtffmfjkfjpblaaaGreatDoorW.PrintWords
open Go.RowKit
section
variable {P : Program} {d : Nat} {xs ys : Array Value} {f : Field} {fs : List Field} {a b : Value} {r s : Bool} {w : World}
end
end Go.Proofs.YtffmfjkfjpblaaaGreatDoorW.PrintWords
