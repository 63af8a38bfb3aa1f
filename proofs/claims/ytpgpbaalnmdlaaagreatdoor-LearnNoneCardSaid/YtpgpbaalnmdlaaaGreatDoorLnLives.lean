/-
  lives.
-/
import Derived.Test.YtpgpbaalnmdlaaaGreatDoorProg
import Derived.Test.YtpgpbaalnmdlaaaGreatDoorAmC
import Derived.KernelRfl
namespace Go.Proofs.YtpgpbaalnmdlaaaGreatDoor
open Go.Abs
noncomputable def EE : Env := { env Tryz.prog with ng := 10 }
def ints (k : IntKind) (l : List Int) : AObj := .rov (l.map (.int k))
def named0 : List Int := [0, 9, 15, 191, 39, 583, 1287, 47, 15, 39, 583, 39, 39, 519, 2055]
def names1 : List Int := [0, 183, 169, 171, 173, 169, 416, 64, 32, 161, 161, 161, 161]
def μG : Hp := mkHp 10 [(0, ints .i64 named0), (1, ints .u64 names1)]
def noExt : FuncId → Option (List Value → Hp → Option Value) := fun _ => none
def noPlain : Plain := fun _ => none
set_option maxRecDepth 100000 in
theorem lives_run : answer (callN Tryz.prog EE noPlain noExt 6 100000 5 [] μG) = some (.bool true) := by kernel_rfl
end Go.Proofs.YtpgpbaalnmdlaaaGreatDoor
