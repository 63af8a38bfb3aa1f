/-
  The closed run of 'ZtreeNil'; what came in, and its copies, are words that are only handed on.
-/
import Derived.Test.YtffmfjkfjpblaaaGreatDoorProg
import Derived.Test.YtffmfjkfjpblaaaGreatDoorAmC
import Derived.Laws.StandIn
import Derived.Laws.Externs
import Derived.KernelRfl
namespace Go.Proofs.YtffmfjkfjpblaaaGreatDoor
open Go.Abs
set_option linter.unusedVariables false
def ints (k : IntKind) (l : List Int) : AObj := .rov (l.map (.int k))
def names0 : List Int := [0, 183, 169, 171, 173, 169, 416, 64, 32, 161, 161, 161, 161]
def xV (b1 b2 : Bool) : Value := .agg #[.chan (some 9), .chan (some 10), .chan (some 11), .chan (some 12), .chan (some 13), .chan (some 14), .chan (some 15), .chan (some 16), .chan (some 17), .chan (some 18), .bool b1, .bool b2, .chan (some 21), .chan (some 22), .chan (some 23), .chan (some 24)]
def xrV (b1 b2 : Bool) : Value := .agg #[.chan (some 14), .chan (some 15), .chan (some 16), .chan (some 17), .chan (some 18), .bool b1, .bool b2, .chan (some 21), .chan (some 22), .chan (some 23), .chan (some 24)]
def rV (b3 b4 : Bool) : Value := .agg #[.chan (some 25), .chan (some 26), .chan (some 27), .chan (some 28), .chan (some 29), .bool b3, .bool b4, .chan (some 32), .chan (some 33), .chan (some 34), .chan (some 35)]
def nV : Value := .chan (some 36)
/-- Copies: new words. -/
def xN (n : Nat) (c1 c2 : Bool) : Value := .agg #[.chan (some (n + 0)), .chan (some (n + 1)), .chan (some (n + 2)), .chan (some (n + 3)), .chan (some (n + 4)), .chan (some (n + 5)), .chan (some (n + 6)), .chan (some (n + 7)), .chan (some (n + 8)), .chan (some (n + 9)), .bool c1, .bool c2, .chan (some (n + 12)), .chan (some (n + 13)), .chan (some (n + 14)), .chan (some (n + 15))]
def rN (n : Nat) (c3 c4 : Bool) : Value := .agg #[.chan (some (n + 0)), .chan (some (n + 1)), .chan (some (n + 2)), .chan (some (n + 3)), .chan (some (n + 4)), .bool c3, .bool c4, .chan (some (n + 7)), .chan (some (n + 8)), .chan (some (n + 9)), .chan (some (n + 10))]
noncomputable def E37 : Env := { env Tryz.prog with ng := 37 }
def μ37 : Hp := mkHp 37 [(0, ints .u64 names0)]
def ixb : List Value → Hp → Option Value
  | [.string s, .int .u8 c], _ => some (.int .i64 (firstIdx s c.toNat.toUInt8))
  | _, _ => none
def extX : FuncId → Option (List Value → Hp → Option Value) := fun f => bif Nat.beq f 210 then some ixb else none
def noPlain : Plain := fun _ => none
noncomputable def Ss : Plain := fun f => bif Nat.beq f 33 || Nat.beq f 50 then some (callT Tryz.prog E37 ⟨ofPlain noPlain, extX, callN Tryz.prog E37 noPlain extX 5 100000⟩ 100000 f) else none
noncomputable def Sc : Plain := fun f => bif Nat.beq f 54 then some (callT Tryz.prog E37 ⟨ofPlain Ss, extX, callN Tryz.prog E37 Ss extX 5 100000⟩ 100000 f) else Ss f
def isX : List Value → Bool
  | [.agg ⟨.chan (some k) :: _⟩] => Nat.beq k 14
  | _ => false
/-- The contracts: 'Large' twice, 'CopyTxn', 'CopyRequest'. -/
noncomputable def S37 (r1 r2 b1 b2 b3 b4 c1 c2 c3 c4 : Bool) : FuncId → Option SumO := fun f =>
  bif Nat.beq f 5 then some (fun args μ => bif isX args then some (.returned (.bool r1), μ, args = [xrV b1 b2]) else some (.returned (.bool r2), μ, args = [rV b3 b4]))
  else bif Nat.beq f 13 then some (fun args μ => bif Nat.ble (μ.next + 16) limit then some (.returned (xN μ.next c1 c2), { μ with next := μ.next + 16 }, args = [xV b1 b2]) else none)
  else bif Nat.beq f 15 then some (fun args μ => bif Nat.ble (μ.next + 11) limit then some (.returned (rN μ.next c3 c4), { μ with next := μ.next + 11 }, args = [rV b3 b4]) else none)
  else bif Nat.beq f 4 then some (fun args μ => some (.returned (.bool true), μ, args = []))
  else ofPlain Sc f
noncomputable def X37 (r1 r2 b1 b2 b3 b4 c1 c2 c3 c4 : Bool) : Par := ⟨S37 r1 r2 b1 b2 b3 b4 c1 c2 c3 c4, extX, callN Tryz.prog E37 Sc extX 5 100000⟩
def ansW : Option (Ending × Hp × List Ans × Prop) → Option (Value × Prop)
  | some (.returned v, _, _, p) => some (v, p)
  | _ => none
set_option maxRecDepth 100000 in
theorem works_run : answer (callN Tryz.prog E37 Sc extX 6 100000 4 [] μ37) = some (.bool true) := by kernel_rfl
def pre1 (b1 b2 : Bool) : Prop := (True ∧ ([] : List Value) = []) ∧ [xrV b1 b2] = [xrV b1 b2]
def pre2 (b1 b2 b3 b4 : Bool) : Prop := pre1 b1 b2 ∧ [rV b3 b4] = [rV b3 b4]
def pre4 (b1 b2 b3 b4 : Bool) : Prop := (pre2 b1 b2 b3 b4 ∧ [xV b1 b2] = [xV b1 b2]) ∧ [rV b3 b4] = [rV b3 b4]
def pre6 (b1 b2 b3 b4 : Bool) : Prop := (pre4 b1 b2 b3 b4 ∧ [xV b1 b2] = [xV b1 b2]) ∧ [rV b3 b4] = [rV b3 b4]
set_option maxRecDepth 100000 in
theorem run1 (r2 b1 b2 b3 b4 c1 c2 c3 c4 : Bool) : ansW (callW Tryz.prog E37 (X37 true r2 b1 b2 b3 b4 c1 c2 c3 c4) 5000 3 [xV b1 b2, rV b3 b4, nV] μ37 []) = some (.bool true, pre1 b1 b2) := by kernel_rfl
set_option maxRecDepth 100000 in
theorem run2 (b1 b2 b3 b4 c1 c2 c3 c4 : Bool) : ansW (callW Tryz.prog E37 (X37 false true b1 b2 b3 b4 c1 c2 c3 c4) 5000 3 [xV b1 b2, rV b3 b4, nV] μ37 []) = some (.bool true, pre2 b1 b2 b3 b4) := by kernel_rfl
set_option maxRecDepth 100000 in
theorem run3 (b1 b2 b3 b4 c1 c2 c3 c4 : Bool) : ansW (callW Tryz.prog E37 (X37 false false b1 b2 b3 b4 c1 c2 c3 c4) 5000 3 [xV b1 b2, rV b3 b4, nV] μ37 []) = some (.bool true, pre6 b1 b2 b3 b4) := by kernel_rfl
end Go.Proofs.YtffmfjkfjpblaaaGreatDoor
