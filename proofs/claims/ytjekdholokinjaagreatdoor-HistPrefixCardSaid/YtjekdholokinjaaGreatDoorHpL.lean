/-
  The closed part: lives() is true.
-/

import Derived.Test.YtjekdholokinjaaGreatDoorHpQ
import Derived.Test.YtjekdholokinjaaGreatDoorBmC
import Derived.Test.YtjekdholokinjaaGreatDoorBmE
import Derived.Laws.StandIn
import Derived.Laws.Externs
set_option linter.unusedVariables false
set_option linter.unusedSimpArgs false
set_option linter.unusedSectionVars false
namespace Go.Abs
open Go.Proofs
set_option linter.unusedVariables false
def ixb : List Value → Hp → Option Value
  | [.string s, .int .u8 c], _ => some (.int .i64 (firstIdx s c.toNat.toUInt8))
  | _, _ => none
def names0 : List Int := [0, 183, 169, 171, 173, 169, 416, 64, 32, 161, 161, 161, 161]
def pow10 : List Int := [1, 10, 100, 1000, 10000, 100000, 1000000, 10000000, 100000000, 1000000000, 10000000000, 100000000000, 1000000000000, 10000000000000, 100000000000000, 1000000000000000, 10000000000000000, 100000000000000000, 1000000000000000000, 10000000000000000000]
def tabs9 : List NumTab := [⟨0, .u64, names0⟩, ⟨1, .u64, pow10⟩]
noncomputable def E9 : Env := { env Tryz.prog with ng := 9 }
def extX : FuncId → Option (List Value → Hp → Option Value) := fun f => bif Nat.beq f 216 then some ixb else none

noncomputable def Sc : Plain := waysOn Tryz.prog E9 extX 5 100000 100000 noPlain [64]
set_option maxRecDepth 100000 in
theorem lives_run : answer (callN Tryz.prog E9 Sc extX 6 100000 10 [] (μTabs 9 tabs9)) = some (.bool true) := by kernel_rfl
end Go.Abs
