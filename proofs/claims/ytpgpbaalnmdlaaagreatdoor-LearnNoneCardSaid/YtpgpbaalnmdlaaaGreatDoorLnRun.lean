/-
  The closed run of 'LearnNone'; what came in are words that are only handed on.
-/
import Derived.Test.YtpgpbaalnmdlaaaGreatDoorLnLives
namespace Go.Proofs.YtpgpbaalnmdlaaaGreatDoor
open Go.Abs
def pkV (b1 b2 b3 b4 : Bool) : Value := .agg #[.chan (some 10), .chan (some 11), .chan (some 12), .chan (some 13), .chan (some 14), .chan (some 15), .chan (some 16), .chan (some 17), .chan (some 18), .chan (some 19), .chan (some 20), .chan (some 21), .bool b1, .bool b2, .chan (some 24), .chan (some 25), .chan (some 26), .chan (some 27), .chan (some 28), .chan (some 29), .chan (some 30), .chan (some 31), .chan (some 32), .chan (some 33), .bool b3, .bool b4, .chan (some 36), .chan (some 37), .chan (some 38), .chan (some 39), .chan (some 40), .chan (some 41)]
def rqV (b3 b4 : Bool) : Value := .agg #[.chan (some 29), .chan (some 30), .chan (some 31), .chan (some 32), .chan (some 33), .bool b3, .bool b4, .chan (some 36), .chan (some 37), .chan (some 38), .chan (some 39)]
noncomputable def E42 : Env := { env Tryz.prog with ng := 42 }
def μ42 : Hp := mkHp 42 [(0, ints .i64 named0), (1, ints .u64 names1)]
def S4 (r b3 b4 : Bool) : FuncId → Option SumO := fun f => bif Nat.beq f 4 then some (fun args μ => some (.returned (.bool r), μ, args = [rqV b3 b4])) else none
noncomputable def X42 (r b3 b4 : Bool) : Par := ⟨S4 r b3 b4, noExt, callN Tryz.prog E42 noPlain noExt 5 100000⟩
def ansW : Option (Ending × Hp × List Ans × Prop) → Option (Value × Prop)
  | some (.returned v, _, _, p) => some (v, p)
  | _ => none
set_option maxRecDepth 100000 in
theorem run_large (b1 b2 b3 b4 : Bool) : ansW (callW Tryz.prog E42 (X42 true b3 b4) 5000 3 [pkV b1 b2 b3 b4] μ42 []) = some (.bool true, True ∧ [rqV b3 b4] = [rqV b3 b4]) := by kernel_rfl
set_option maxRecDepth 100000 in
theorem run_small (b1 b2 b3 b4 : Bool) : ansW (callW Tryz.prog E42 (X42 false b3 b4) 5000 3 [pkV b1 b2 b3 b4] μ42 []) = some (.bool true, True ∧ [rqV b3 b4] = [rqV b3 b4]) := by kernel_rfl
end Go.Proofs.YtpgpbaalnmdlaaaGreatDoor
