/-
  What the law's functions come to: part B.
-/
import Derived.Test.YthopfmokkpoabaaGreatDoorDnA
set_option linter.unusedVariables false
set_option linter.unusedSimpArgs false
set_option linter.unusedSectionVars false
section
namespace Go.Abs
open Go.Proofs
set_option maxRecDepth 100000
def oWr (n : Nat) (us : List Value) : List (Nat × AObj):=[(0,.cells [.slice (some ⟨1,0,none⟩) n (2 * n + 1)] 0),(1,.cells us 1)]
theorem w29_came (n : Nat) (v : Int) (us : List Value) (h0 : 1 ≤ 1∧0 + n * 1 ≤ List.length us∧capOf (2 * n + 1) < n + 1∧(n + 1) * 1 ≤ 140737488355328∧n + 1 ≤ 4611686018427387904∧List.length (List.take (n * 1) (List.drop 0 us)) = n * 1∧1 = 1∧true = true∧capOpen (2 * n + 1) = true∧1 = 1∧0 + capOf (2 * n + 1) * 1 = List.length us) :
  RanC (runO Tryz.prog E1 (sm0) noRun 100 14 [Value.pointer (some ⟨0,0,none⟩),Value.int .i8 v] (mkHp 2 (oWr n us)) [.skip 24,.grow true] True) (.returned (Value.tuple (Array.mk []))) [(0,AObj.cells [Value.slice (some ⟨3,0,none⟩) (n + 1) (2 * (n + 1) + 1)] 0),(1,AObj.dead),(2,AObj.cells [Value.int .u8 (IntKind.wrap .u8 (Int.fdiv (IntKind.wrap .u64 v) 1))] 0),(3,AObj.cells (List.take (n * 1) (List.drop 0 us) ++ List.take 1 (List.drop 0 [Value.int .u8 (IntKind.wrap .u8 (Int.fdiv (IntKind.wrap .u64 v) 1))])) 1)] 4 :=
 cameCF_of (O:=let x2:=true = true∧true = true;let x0:=x2∧Value.pointer (some (Addr.mk 0 0 none)) = Value.pointer (some (Addr.mk 0 0 none));let x1:=x2∧Value.slice (some (Addr.mk 1 0 none)) n (2 * n + 1) = Value.slice (some (Addr.mk 1 0 none)) n (2 * n + 1);(True∧1 ≤ 1∧0 + n * 1 ≤ List.length us∧capOf (2 * n + 1) < n + 1∧(n + 1) * 1 ≤ 140737488355328∧n + 1 ≤ 4611686018427387904∧List.length (List.take (n * 1) (List.drop 0 us)) = n * 1∧1 = 1∧true = true∧capOpen (2 * n + 1) = true∧1 = 1∧0 + capOf (2 * n + 1) * 1 = List.length us)∧(x0∧x0∧x0∧True)∧(x0∧x0∧True)∧(x0∧x0∧True)∧(x0∧x0∧True)∧(x1∧x1∧True)∧True∧True∧True∧True∧True∧True∧True∧True∧True∧True∧True) (by kernel_rfl) ⟨⟨trivial,h0⟩,⟨⟨⟨⟨rfl,rfl⟩,rfl⟩,⟨⟨⟨rfl,rfl⟩,rfl⟩,⟨⟨⟨rfl,rfl⟩,rfl⟩,trivial⟩⟩⟩,⟨⟨⟨⟨rfl,rfl⟩,rfl⟩,⟨⟨⟨rfl,rfl⟩,rfl⟩,trivial⟩⟩,⟨⟨⟨⟨rfl,rfl⟩,rfl⟩,⟨⟨⟨rfl,rfl⟩,rfl⟩,trivial⟩⟩,⟨⟨⟨⟨rfl,rfl⟩,rfl⟩,⟨⟨⟨rfl,rfl⟩,rfl⟩,trivial⟩⟩,⟨⟨⟨⟨rfl,rfl⟩,rfl⟩,⟨⟨⟨rfl,rfl⟩,rfl⟩,trivial⟩⟩,⟨trivial,⟨trivial,⟨trivial,⟨trivial,⟨trivial,⟨trivial,⟨trivial,⟨trivial,⟨trivial,⟨trivial,trivial⟩⟩⟩⟩⟩⟩⟩⟩⟩⟩⟩⟩⟩⟩⟩⟩
theorem w34_came (n : Nat) (v : Int) (us : List Value) (h0 : 1 ≤ 1∧0 + n * 1 ≤ List.length us∧capOf (2 * n + 1) < n + 1∧(n + 1) * 1 ≤ 140737488355328∧n + 1 ≤ 4611686018427387904∧List.length (List.take (n * 1) (List.drop 0 us)) = n * 1∧1 = 1∧true = true∧capOpen (2 * n + 1) = true∧1 = 1∧0 + capOf (2 * n + 1) * 1 = List.length us) (h1 : 1 ≤ 1∧0 + (n + 1) * 1 ≤ List.length (List.take (n * 1) (List.drop 0 us) ++ List.take 1 (List.drop 0 [Value.int .u8 (IntKind.wrap .u8 (Int.fdiv (IntKind.wrap .u64 v) 16777216))]))∧capOf (2 * (n + 1) + 1) < n + 1 + 1∧(n + 1 + 1) * 1 ≤ 140737488355328∧n + 1 + 1 ≤ 4611686018427387904∧List.length (List.take ((n + 1) * 1) (List.drop 0 (List.take (n * 1) (List.drop 0 us) ++ List.take 1 (List.drop 0 [Value.int .u8 (IntKind.wrap .u8 (Int.fdiv (IntKind.wrap .u64 v) 16777216))])))) = (n + 1) * 1∧1 = 1∧true = true∧capOpen (2 * (n + 1) + 1) = true∧1 = 1∧0 + capOf (2 * (n + 1) + 1) * 1 = List.length (List.take (n * 1) (List.drop 0 us) ++ List.take 1 (List.drop 0 [Value.int .u8 (IntKind.wrap .u8 (Int.fdiv (IntKind.wrap .u64 v) 16777216))]))) (h2 : 1 ≤ 1∧0 + (n + 1 + 1) * 1 ≤ List.length (List.take ((n + 1) * 1) (List.drop 0 (List.take (n * 1) (List.drop 0 us) ++ List.take 1 (List.drop 0 [Value.int .u8 (IntKind.wrap .u8 (Int.fdiv (IntKind.wrap .u64 v) 16777216))]))) ++ List.take 1 (List.drop 0 [Value.int .u8 (IntKind.wrap .u8 (Int.fdiv (IntKind.wrap .u64 v) 65536))]))∧capOf (2 * (n + 1 + 1) + 1) < n + 1 + 1 + 1∧(n + 1 + 1 + 1) * 1 ≤ 140737488355328∧n + 1 + 1 + 1 ≤ 4611686018427387904∧List.length (List.take ((n + 1 + 1) * 1) (List.drop 0 (List.take ((n + 1) * 1) (List.drop 0 (List.take (n * 1) (List.drop 0 us) ++ List.take 1 (List.drop 0 [Value.int .u8 (IntKind.wrap .u8 (Int.fdiv (IntKind.wrap .u64 v) 16777216))]))) ++ List.take 1 (List.drop 0 [Value.int .u8 (IntKind.wrap .u8 (Int.fdiv (IntKind.wrap .u64 v) 65536))])))) = (n + 1 + 1) * 1∧1 = 1∧true = true∧capOpen (2 * (n + 1 + 1) + 1) = true∧1 = 1∧0 + capOf (2 * (n + 1 + 1) + 1) * 1 = List.length (List.take ((n + 1) * 1) (List.drop 0 (List.take (n * 1) (List.drop 0 us) ++ List.take 1 (List.drop 0 [Value.int .u8 (IntKind.wrap .u8 (Int.fdiv (IntKind.wrap .u64 v) 16777216))]))) ++ List.take 1 (List.drop 0 [Value.int .u8 (IntKind.wrap .u8 (Int.fdiv (IntKind.wrap .u64 v) 65536))]))) (h3 : 1 ≤ 1∧0 + (n + 1 + 1 + 1) * 1 ≤ List.length (List.take ((n + 1 + 1) * 1) (List.drop 0 (List.take ((n + 1) * 1) (List.drop 0 (List.take (n * 1) (List.drop 0 us) ++ List.take 1 (List.drop 0 [Value.int .u8 (IntKind.wrap .u8 (Int.fdiv (IntKind.wrap .u64 v) 16777216))]))) ++ List.take 1 (List.drop 0 [Value.int .u8 (IntKind.wrap .u8 (Int.fdiv (IntKind.wrap .u64 v) 65536))]))) ++ List.take 1 (List.drop 0 [Value.int .u8 (IntKind.wrap .u8 (Int.fdiv (IntKind.wrap .u64 v) 256))]))∧capOf (2 * (n + 1 + 1 + 1) + 1) < n + 1 + 1 + 1 + 1∧(n + 1 + 1 + 1 + 1) * 1 ≤ 140737488355328∧n + 1 + 1 + 1 + 1 ≤ 4611686018427387904∧List.length (List.take ((n + 1 + 1 + 1) * 1) (List.drop 0 (List.take ((n + 1 + 1) * 1) (List.drop 0 (List.take ((n + 1) * 1) (List.drop 0 (List.take (n * 1) (List.drop 0 us) ++ List.take 1 (List.drop 0 [Value.int .u8 (IntKind.wrap .u8 (Int.fdiv (IntKind.wrap .u64 v) 16777216))]))) ++ List.take 1 (List.drop 0 [Value.int .u8 (IntKind.wrap .u8 (Int.fdiv (IntKind.wrap .u64 v) 65536))]))) ++ List.take 1 (List.drop 0 [Value.int .u8 (IntKind.wrap .u8 (Int.fdiv (IntKind.wrap .u64 v) 256))])))) = (n + 1 + 1 + 1) * 1∧1 = 1∧true = true∧capOpen (2 * (n + 1 + 1 + 1) + 1) = true∧1 = 1∧0 + capOf (2 * (n + 1 + 1 + 1) + 1) * 1 = List.length (List.take ((n + 1 + 1) * 1) (List.drop 0 (List.take ((n + 1) * 1) (List.drop 0 (List.take (n * 1) (List.drop 0 us) ++ List.take 1 (List.drop 0 [Value.int .u8 (IntKind.wrap .u8 (Int.fdiv (IntKind.wrap .u64 v) 16777216))]))) ++ List.take 1 (List.drop 0 [Value.int .u8 (IntKind.wrap .u8 (Int.fdiv (IntKind.wrap .u64 v) 65536))]))) ++ List.take 1 (List.drop 0 [Value.int .u8 (IntKind.wrap .u8 (Int.fdiv (IntKind.wrap .u64 v) 256))]))) :
  RanC (runO Tryz.prog E1 (sm0) noRun 100 19 [Value.pointer (some ⟨0,0,none⟩),Value.int .u32 v] (mkHp 2 (oWr n us)) [.skip 24,.grow true,.skip 20,.grow true,.skip 20,.grow true,.skip 20,.grow true] True) (.returned (Value.tuple (Array.mk []))) [(0,AObj.cells [Value.slice (some ⟨9,0,none⟩) (n + 1 + 1 + 1 + 1) (2 * (n + 1 + 1 + 1 + 1) + 1)] 0),(1,AObj.dead),(2,AObj.cells [Value.int .u8 (IntKind.wrap .u8 (Int.fdiv (IntKind.wrap .u64 v) 16777216))] 0),(3,AObj.dead),(4,AObj.cells [Value.int .u8 (IntKind.wrap .u8 (Int.fdiv (IntKind.wrap .u64 v) 65536))] 0),(5,AObj.dead),(6,AObj.cells [Value.int .u8 (IntKind.wrap .u8 (Int.fdiv (IntKind.wrap .u64 v) 256))] 0),(7,AObj.dead),(8,AObj.cells [Value.int .u8 (IntKind.wrap .u8 (Int.fdiv (IntKind.wrap .u64 v) 1))] 0),(9,AObj.cells (List.take ((n + 1 + 1 + 1) * 1) (List.drop 0 (List.take ((n + 1 + 1) * 1) (List.drop 0 (List.take ((n + 1) * 1) (List.drop 0 (List.take (n * 1) (List.drop 0 us) ++ List.take 1 (List.drop 0 [Value.int .u8 (IntKind.wrap .u8 (Int.fdiv (IntKind.wrap .u64 v) 16777216))]))) ++ List.take 1 (List.drop 0 [Value.int .u8 (IntKind.wrap .u8 (Int.fdiv (IntKind.wrap .u64 v) 65536))]))) ++ List.take 1 (List.drop 0 [Value.int .u8 (IntKind.wrap .u8 (Int.fdiv (IntKind.wrap .u64 v) 256))]))) ++ List.take 1 (List.drop 0 [Value.int .u8 (IntKind.wrap .u8 (Int.fdiv (IntKind.wrap .u64 v) 1))])) 1)] 10 :=
 cameCF_of (O:=let x8:=true = true∧true = true;let x0:=x8∧Value.pointer (some (Addr.mk 0 0 none)) = Value.pointer (some (Addr.mk 0 0 none));let x2:=List.take (n * 1) (List.drop 0 us) ++ List.take 1 (List.drop 0 [Value.int .u8 (IntKind.wrap .u8 (Int.fdiv (IntKind.wrap .u64 v) 16777216))]);let x1:=List.take ((n + 1) * 1) (List.drop 0 x2) ++ List.take 1 (List.drop 0 [Value.int .u8 (IntKind.wrap .u8 (Int.fdiv (IntKind.wrap .u64 v) 65536))]);let x3:=List.take ((n + 1 + 1) * 1) (List.drop 0 x1) ++ List.take 1 (List.drop 0 [Value.int .u8 (IntKind.wrap .u8 (Int.fdiv (IntKind.wrap .u64 v) 256))]);let x4:=x8∧Value.slice (some (Addr.mk 7 0 none)) (n + 1 + 1 + 1) (2 * (n + 1 + 1 + 1) + 1) = Value.slice (some (Addr.mk 7 0 none)) (n + 1 + 1 + 1) (2 * (n + 1 + 1 + 1) + 1);let x5:=x8∧Value.slice (some (Addr.mk 5 0 none)) (n + 1 + 1) (2 * (n + 1 + 1) + 1) = Value.slice (some (Addr.mk 5 0 none)) (n + 1 + 1) (2 * (n + 1 + 1) + 1);let x6:=x8∧Value.slice (some (Addr.mk 3 0 none)) (n + 1) (2 * (n + 1) + 1) = Value.slice (some (Addr.mk 3 0 none)) (n + 1) (2 * (n + 1) + 1);let x7:=x8∧Value.slice (some (Addr.mk 1 0 none)) n (2 * n + 1) = Value.slice (some (Addr.mk 1 0 none)) n (2 * n + 1);(((((((True∧1 ≤ 1∧0 + n * 1 ≤ List.length us∧capOf (2 * n + 1) < n + 1∧(n + 1) * 1 ≤ 140737488355328∧n + 1 ≤ 4611686018427387904∧List.length (List.take (n * 1) (List.drop 0 us)) = n * 1∧1 = 1∧true = true∧capOpen (2 * n + 1) = true∧1 = 1∧0 + capOf (2 * n + 1) * 1 = List.length us)∧(x0∧x0∧x0∧True)∧(x0∧x0∧True)∧(x0∧x0∧True)∧(x0∧x0∧True)∧(x7∧x7∧True)∧True∧True∧True∧True∧True∧True∧True∧True∧True∧True∧True)∧1 ≤ 1∧0 + (n + 1) * 1 ≤ List.length x2∧capOf (2 * (n + 1) + 1) < n + 1 + 1∧(n + 1 + 1) * 1 ≤ 140737488355328∧n + 1 + 1 ≤ 4611686018427387904∧List.length (List.take ((n + 1) * 1) (List.drop 0 x2)) = (n + 1) * 1∧1 = 1∧true = true∧capOpen (2 * (n + 1) + 1) = true∧1 = 1∧0 + capOf (2 * (n + 1) + 1) * 1 = List.length x2)∧(x0∧x0∧x0∧True)∧(x0∧x0∧True)∧(x0∧x0∧True)∧(x0∧x0∧True)∧(x6∧x6∧True)∧True∧True∧True∧True∧True∧True∧True∧True∧True∧True∧True)∧1 ≤ 1∧0 + (n + 1 + 1) * 1 ≤ List.length x1∧capOf (2 * (n + 1 + 1) + 1) < n + 1 + 1 + 1∧(n + 1 + 1 + 1) * 1 ≤ 140737488355328∧n + 1 + 1 + 1 ≤ 4611686018427387904∧List.length (List.take ((n + 1 + 1) * 1) (List.drop 0 x1)) = (n + 1 + 1) * 1∧1 = 1∧true = true∧capOpen (2 * (n + 1 + 1) + 1) = true∧1 = 1∧0 + capOf (2 * (n + 1 + 1) + 1) * 1 = List.length x1)∧(x0∧x0∧x0∧True)∧(x0∧x0∧True)∧(x0∧x0∧True)∧(x0∧x0∧True)∧(x5∧x5∧True)∧True∧True∧True∧True∧True∧True∧True∧True∧True∧True∧True)∧1 ≤ 1∧0 + (n + 1 + 1 + 1) * 1 ≤ List.length x3∧capOf (2 * (n + 1 + 1 + 1) + 1) < n + 1 + 1 + 1 + 1∧(n + 1 + 1 + 1 + 1) * 1 ≤ 140737488355328∧n + 1 + 1 + 1 + 1 ≤ 4611686018427387904∧List.length (List.take ((n + 1 + 1 + 1) * 1) (List.drop 0 x3)) = (n + 1 + 1 + 1) * 1∧1 = 1∧true = true∧capOpen (2 * (n + 1 + 1 + 1) + 1) = true∧1 = 1∧0 + capOf (2 * (n + 1 + 1 + 1) + 1) * 1 = List.length x3)∧(x0∧x0∧x0∧True)∧(x0∧x0∧True)∧(x0∧x0∧True)∧(x0∧x0∧True)∧(x4∧x4∧True)∧True∧True∧True∧True∧True∧True∧True∧True∧True∧True∧True) (by kernel_rfl) ⟨⟨⟨⟨⟨⟨⟨⟨trivial,h0⟩,⟨⟨⟨⟨rfl,rfl⟩,rfl⟩,⟨⟨⟨rfl,rfl⟩,rfl⟩,⟨⟨⟨rfl,rfl⟩,rfl⟩,trivial⟩⟩⟩,⟨⟨⟨⟨rfl,rfl⟩,rfl⟩,⟨⟨⟨rfl,rfl⟩,rfl⟩,trivial⟩⟩,⟨⟨⟨⟨rfl,rfl⟩,rfl⟩,⟨⟨⟨rfl,rfl⟩,rfl⟩,trivial⟩⟩,⟨⟨⟨⟨rfl,rfl⟩,rfl⟩,⟨⟨⟨rfl,rfl⟩,rfl⟩,trivial⟩⟩,⟨⟨⟨⟨rfl,rfl⟩,rfl⟩,⟨⟨⟨rfl,rfl⟩,rfl⟩,trivial⟩⟩,⟨trivial,⟨trivial,⟨trivial,⟨trivial,⟨trivial,⟨trivial,⟨trivial,⟨trivial,⟨trivial,⟨trivial,trivial⟩⟩⟩⟩⟩⟩⟩⟩⟩⟩⟩⟩⟩⟩⟩⟩,h1⟩,⟨⟨⟨⟨rfl,rfl⟩,rfl⟩,⟨⟨⟨rfl,rfl⟩,rfl⟩,⟨⟨⟨rfl,rfl⟩,rfl⟩,trivial⟩⟩⟩,⟨⟨⟨⟨rfl,rfl⟩,rfl⟩,⟨⟨⟨rfl,rfl⟩,rfl⟩,trivial⟩⟩,⟨⟨⟨⟨rfl,rfl⟩,rfl⟩,⟨⟨⟨rfl,rfl⟩,rfl⟩,trivial⟩⟩,⟨⟨⟨⟨rfl,rfl⟩,rfl⟩,⟨⟨⟨rfl,rfl⟩,rfl⟩,trivial⟩⟩,⟨⟨⟨⟨rfl,rfl⟩,rfl⟩,⟨⟨⟨rfl,rfl⟩,rfl⟩,trivial⟩⟩,⟨trivial,⟨trivial,⟨trivial,⟨trivial,⟨trivial,⟨trivial,⟨trivial,⟨trivial,⟨trivial,⟨trivial,trivial⟩⟩⟩⟩⟩⟩⟩⟩⟩⟩⟩⟩⟩⟩⟩⟩,h2⟩,⟨⟨⟨⟨rfl,rfl⟩,rfl⟩,⟨⟨⟨rfl,rfl⟩,rfl⟩,⟨⟨⟨rfl,rfl⟩,rfl⟩,trivial⟩⟩⟩,⟨⟨⟨⟨rfl,rfl⟩,rfl⟩,⟨⟨⟨rfl,rfl⟩,rfl⟩,trivial⟩⟩,⟨⟨⟨⟨rfl,rfl⟩,rfl⟩,⟨⟨⟨rfl,rfl⟩,rfl⟩,trivial⟩⟩,⟨⟨⟨⟨rfl,rfl⟩,rfl⟩,⟨⟨⟨rfl,rfl⟩,rfl⟩,trivial⟩⟩,⟨⟨⟨⟨rfl,rfl⟩,rfl⟩,⟨⟨⟨rfl,rfl⟩,rfl⟩,trivial⟩⟩,⟨trivial,⟨trivial,⟨trivial,⟨trivial,⟨trivial,⟨trivial,⟨trivial,⟨trivial,⟨trivial,⟨trivial,trivial⟩⟩⟩⟩⟩⟩⟩⟩⟩⟩⟩⟩⟩⟩⟩⟩,h3⟩,⟨⟨⟨⟨rfl,rfl⟩,rfl⟩,⟨⟨⟨rfl,rfl⟩,rfl⟩,⟨⟨⟨rfl,rfl⟩,rfl⟩,trivial⟩⟩⟩,⟨⟨⟨⟨rfl,rfl⟩,rfl⟩,⟨⟨⟨rfl,rfl⟩,rfl⟩,trivial⟩⟩,⟨⟨⟨⟨rfl,rfl⟩,rfl⟩,⟨⟨⟨rfl,rfl⟩,rfl⟩,trivial⟩⟩,⟨⟨⟨⟨rfl,rfl⟩,rfl⟩,⟨⟨⟨rfl,rfl⟩,rfl⟩,trivial⟩⟩,⟨⟨⟨⟨rfl,rfl⟩,rfl⟩,⟨⟨⟨rfl,rfl⟩,rfl⟩,trivial⟩⟩,⟨trivial,⟨trivial,⟨trivial,⟨trivial,⟨trivial,⟨trivial,⟨trivial,⟨trivial,⟨trivial,⟨trivial,trivial⟩⟩⟩⟩⟩⟩⟩⟩⟩⟩⟩⟩⟩⟩⟩⟩
theorem w35_came (n : Nat) (v : Int) (us : List Value) (h0 : 1 ≤ 1∧0 + n * 1 ≤ List.length us∧capOf (2 * n + 1) < n + 1∧(n + 1) * 1 ≤ 140737488355328∧n + 1 ≤ 4611686018427387904∧List.length (List.take (n * 1) (List.drop 0 us)) = n * 1∧1 = 1∧true = true∧capOpen (2 * n + 1) = true∧1 = 1∧0 + capOf (2 * n + 1) * 1 = List.length us) (h1 : 1 ≤ 1∧0 + (n + 1) * 1 ≤ List.length (List.take (n * 1) (List.drop 0 us) ++ List.take 1 (List.drop 0 [Value.int .u8 (IntKind.wrap .u8 (Int.fdiv (IntKind.wrap .u64 v) 16777216))]))∧capOf (2 * (n + 1) + 1) < n + 1 + 1∧(n + 1 + 1) * 1 ≤ 140737488355328∧n + 1 + 1 ≤ 4611686018427387904∧List.length (List.take ((n + 1) * 1) (List.drop 0 (List.take (n * 1) (List.drop 0 us) ++ List.take 1 (List.drop 0 [Value.int .u8 (IntKind.wrap .u8 (Int.fdiv (IntKind.wrap .u64 v) 16777216))])))) = (n + 1) * 1∧1 = 1∧true = true∧capOpen (2 * (n + 1) + 1) = true∧1 = 1∧0 + capOf (2 * (n + 1) + 1) * 1 = List.length (List.take (n * 1) (List.drop 0 us) ++ List.take 1 (List.drop 0 [Value.int .u8 (IntKind.wrap .u8 (Int.fdiv (IntKind.wrap .u64 v) 16777216))]))) (h2 : 1 ≤ 1∧0 + (n + 1 + 1) * 1 ≤ List.length (List.take ((n + 1) * 1) (List.drop 0 (List.take (n * 1) (List.drop 0 us) ++ List.take 1 (List.drop 0 [Value.int .u8 (IntKind.wrap .u8 (Int.fdiv (IntKind.wrap .u64 v) 16777216))]))) ++ List.take 1 (List.drop 0 [Value.int .u8 (IntKind.wrap .u8 (Int.fdiv (IntKind.wrap .u64 v) 65536))]))∧capOf (2 * (n + 1 + 1) + 1) < n + 1 + 1 + 1∧(n + 1 + 1 + 1) * 1 ≤ 140737488355328∧n + 1 + 1 + 1 ≤ 4611686018427387904∧List.length (List.take ((n + 1 + 1) * 1) (List.drop 0 (List.take ((n + 1) * 1) (List.drop 0 (List.take (n * 1) (List.drop 0 us) ++ List.take 1 (List.drop 0 [Value.int .u8 (IntKind.wrap .u8 (Int.fdiv (IntKind.wrap .u64 v) 16777216))]))) ++ List.take 1 (List.drop 0 [Value.int .u8 (IntKind.wrap .u8 (Int.fdiv (IntKind.wrap .u64 v) 65536))])))) = (n + 1 + 1) * 1∧1 = 1∧true = true∧capOpen (2 * (n + 1 + 1) + 1) = true∧1 = 1∧0 + capOf (2 * (n + 1 + 1) + 1) * 1 = List.length (List.take ((n + 1) * 1) (List.drop 0 (List.take (n * 1) (List.drop 0 us) ++ List.take 1 (List.drop 0 [Value.int .u8 (IntKind.wrap .u8 (Int.fdiv (IntKind.wrap .u64 v) 16777216))]))) ++ List.take 1 (List.drop 0 [Value.int .u8 (IntKind.wrap .u8 (Int.fdiv (IntKind.wrap .u64 v) 65536))]))) (h3 : 1 ≤ 1∧0 + (n + 1 + 1 + 1) * 1 ≤ List.length (List.take ((n + 1 + 1) * 1) (List.drop 0 (List.take ((n + 1) * 1) (List.drop 0 (List.take (n * 1) (List.drop 0 us) ++ List.take 1 (List.drop 0 [Value.int .u8 (IntKind.wrap .u8 (Int.fdiv (IntKind.wrap .u64 v) 16777216))]))) ++ List.take 1 (List.drop 0 [Value.int .u8 (IntKind.wrap .u8 (Int.fdiv (IntKind.wrap .u64 v) 65536))]))) ++ List.take 1 (List.drop 0 [Value.int .u8 (IntKind.wrap .u8 (Int.fdiv (IntKind.wrap .u64 v) 256))]))∧capOf (2 * (n + 1 + 1 + 1) + 1) < n + 1 + 1 + 1 + 1∧(n + 1 + 1 + 1 + 1) * 1 ≤ 140737488355328∧n + 1 + 1 + 1 + 1 ≤ 4611686018427387904∧List.length (List.take ((n + 1 + 1 + 1) * 1) (List.drop 0 (List.take ((n + 1 + 1) * 1) (List.drop 0 (List.take ((n + 1) * 1) (List.drop 0 (List.take (n * 1) (List.drop 0 us) ++ List.take 1 (List.drop 0 [Value.int .u8 (IntKind.wrap .u8 (Int.fdiv (IntKind.wrap .u64 v) 16777216))]))) ++ List.take 1 (List.drop 0 [Value.int .u8 (IntKind.wrap .u8 (Int.fdiv (IntKind.wrap .u64 v) 65536))]))) ++ List.take 1 (List.drop 0 [Value.int .u8 (IntKind.wrap .u8 (Int.fdiv (IntKind.wrap .u64 v) 256))])))) = (n + 1 + 1 + 1) * 1∧1 = 1∧true = true∧capOpen (2 * (n + 1 + 1 + 1) + 1) = true∧1 = 1∧0 + capOf (2 * (n + 1 + 1 + 1) + 1) * 1 = List.length (List.take ((n + 1 + 1) * 1) (List.drop 0 (List.take ((n + 1) * 1) (List.drop 0 (List.take (n * 1) (List.drop 0 us) ++ List.take 1 (List.drop 0 [Value.int .u8 (IntKind.wrap .u8 (Int.fdiv (IntKind.wrap .u64 v) 16777216))]))) ++ List.take 1 (List.drop 0 [Value.int .u8 (IntKind.wrap .u8 (Int.fdiv (IntKind.wrap .u64 v) 65536))]))) ++ List.take 1 (List.drop 0 [Value.int .u8 (IntKind.wrap .u8 (Int.fdiv (IntKind.wrap .u64 v) 256))]))) :
  RanC (runO Tryz.prog E1 (sm0) noRun 100 20 [Value.pointer (some ⟨0,0,none⟩),Value.int .i32 v] (mkHp 2 (oWr n us)) [.skip 24,.grow true,.skip 20,.grow true,.skip 20,.grow true,.skip 20,.grow true] True) (.returned (Value.tuple (Array.mk []))) [(0,AObj.cells [Value.slice (some ⟨9,0,none⟩) (n + 1 + 1 + 1 + 1) (2 * (n + 1 + 1 + 1 + 1) + 1)] 0),(1,AObj.dead),(2,AObj.cells [Value.int .u8 (IntKind.wrap .u8 (Int.fdiv (IntKind.wrap .u64 v) 16777216))] 0),(3,AObj.dead),(4,AObj.cells [Value.int .u8 (IntKind.wrap .u8 (Int.fdiv (IntKind.wrap .u64 v) 65536))] 0),(5,AObj.dead),(6,AObj.cells [Value.int .u8 (IntKind.wrap .u8 (Int.fdiv (IntKind.wrap .u64 v) 256))] 0),(7,AObj.dead),(8,AObj.cells [Value.int .u8 (IntKind.wrap .u8 (Int.fdiv (IntKind.wrap .u64 v) 1))] 0),(9,AObj.cells (List.take ((n + 1 + 1 + 1) * 1) (List.drop 0 (List.take ((n + 1 + 1) * 1) (List.drop 0 (List.take ((n + 1) * 1) (List.drop 0 (List.take (n * 1) (List.drop 0 us) ++ List.take 1 (List.drop 0 [Value.int .u8 (IntKind.wrap .u8 (Int.fdiv (IntKind.wrap .u64 v) 16777216))]))) ++ List.take 1 (List.drop 0 [Value.int .u8 (IntKind.wrap .u8 (Int.fdiv (IntKind.wrap .u64 v) 65536))]))) ++ List.take 1 (List.drop 0 [Value.int .u8 (IntKind.wrap .u8 (Int.fdiv (IntKind.wrap .u64 v) 256))]))) ++ List.take 1 (List.drop 0 [Value.int .u8 (IntKind.wrap .u8 (Int.fdiv (IntKind.wrap .u64 v) 1))])) 1)] 10 :=
 cameCF_of (O:=let x8:=true = true∧true = true;let x0:=x8∧Value.pointer (some (Addr.mk 0 0 none)) = Value.pointer (some (Addr.mk 0 0 none));let x2:=List.take (n * 1) (List.drop 0 us) ++ List.take 1 (List.drop 0 [Value.int .u8 (IntKind.wrap .u8 (Int.fdiv (IntKind.wrap .u64 v) 16777216))]);let x1:=List.take ((n + 1) * 1) (List.drop 0 x2) ++ List.take 1 (List.drop 0 [Value.int .u8 (IntKind.wrap .u8 (Int.fdiv (IntKind.wrap .u64 v) 65536))]);let x3:=List.take ((n + 1 + 1) * 1) (List.drop 0 x1) ++ List.take 1 (List.drop 0 [Value.int .u8 (IntKind.wrap .u8 (Int.fdiv (IntKind.wrap .u64 v) 256))]);let x4:=x8∧Value.slice (some (Addr.mk 7 0 none)) (n + 1 + 1 + 1) (2 * (n + 1 + 1 + 1) + 1) = Value.slice (some (Addr.mk 7 0 none)) (n + 1 + 1 + 1) (2 * (n + 1 + 1 + 1) + 1);let x5:=x8∧Value.slice (some (Addr.mk 5 0 none)) (n + 1 + 1) (2 * (n + 1 + 1) + 1) = Value.slice (some (Addr.mk 5 0 none)) (n + 1 + 1) (2 * (n + 1 + 1) + 1);let x6:=x8∧Value.slice (some (Addr.mk 3 0 none)) (n + 1) (2 * (n + 1) + 1) = Value.slice (some (Addr.mk 3 0 none)) (n + 1) (2 * (n + 1) + 1);let x7:=x8∧Value.slice (some (Addr.mk 1 0 none)) n (2 * n + 1) = Value.slice (some (Addr.mk 1 0 none)) n (2 * n + 1);(((((((True∧1 ≤ 1∧0 + n * 1 ≤ List.length us∧capOf (2 * n + 1) < n + 1∧(n + 1) * 1 ≤ 140737488355328∧n + 1 ≤ 4611686018427387904∧List.length (List.take (n * 1) (List.drop 0 us)) = n * 1∧1 = 1∧true = true∧capOpen (2 * n + 1) = true∧1 = 1∧0 + capOf (2 * n + 1) * 1 = List.length us)∧(x0∧x0∧x0∧True)∧(x0∧x0∧True)∧(x0∧x0∧True)∧(x0∧x0∧True)∧(x7∧x7∧True)∧True∧True∧True∧True∧True∧True∧True∧True∧True∧True∧True)∧1 ≤ 1∧0 + (n + 1) * 1 ≤ List.length x2∧capOf (2 * (n + 1) + 1) < n + 1 + 1∧(n + 1 + 1) * 1 ≤ 140737488355328∧n + 1 + 1 ≤ 4611686018427387904∧List.length (List.take ((n + 1) * 1) (List.drop 0 x2)) = (n + 1) * 1∧1 = 1∧true = true∧capOpen (2 * (n + 1) + 1) = true∧1 = 1∧0 + capOf (2 * (n + 1) + 1) * 1 = List.length x2)∧(x0∧x0∧x0∧True)∧(x0∧x0∧True)∧(x0∧x0∧True)∧(x0∧x0∧True)∧(x6∧x6∧True)∧True∧True∧True∧True∧True∧True∧True∧True∧True∧True∧True)∧1 ≤ 1∧0 + (n + 1 + 1) * 1 ≤ List.length x1∧capOf (2 * (n + 1 + 1) + 1) < n + 1 + 1 + 1∧(n + 1 + 1 + 1) * 1 ≤ 140737488355328∧n + 1 + 1 + 1 ≤ 4611686018427387904∧List.length (List.take ((n + 1 + 1) * 1) (List.drop 0 x1)) = (n + 1 + 1) * 1∧1 = 1∧true = true∧capOpen (2 * (n + 1 + 1) + 1) = true∧1 = 1∧0 + capOf (2 * (n + 1 + 1) + 1) * 1 = List.length x1)∧(x0∧x0∧x0∧True)∧(x0∧x0∧True)∧(x0∧x0∧True)∧(x0∧x0∧True)∧(x5∧x5∧True)∧True∧True∧True∧True∧True∧True∧True∧True∧True∧True∧True)∧1 ≤ 1∧0 + (n + 1 + 1 + 1) * 1 ≤ List.length x3∧capOf (2 * (n + 1 + 1 + 1) + 1) < n + 1 + 1 + 1 + 1∧(n + 1 + 1 + 1 + 1) * 1 ≤ 140737488355328∧n + 1 + 1 + 1 + 1 ≤ 4611686018427387904∧List.length (List.take ((n + 1 + 1 + 1) * 1) (List.drop 0 x3)) = (n + 1 + 1 + 1) * 1∧1 = 1∧true = true∧capOpen (2 * (n + 1 + 1 + 1) + 1) = true∧1 = 1∧0 + capOf (2 * (n + 1 + 1 + 1) + 1) * 1 = List.length x3)∧(x0∧x0∧x0∧True)∧(x0∧x0∧True)∧(x0∧x0∧True)∧(x0∧x0∧True)∧(x4∧x4∧True)∧True∧True∧True∧True∧True∧True∧True∧True∧True∧True∧True) (by kernel_rfl) ⟨⟨⟨⟨⟨⟨⟨⟨trivial,h0⟩,⟨⟨⟨⟨rfl,rfl⟩,rfl⟩,⟨⟨⟨rfl,rfl⟩,rfl⟩,⟨⟨⟨rfl,rfl⟩,rfl⟩,trivial⟩⟩⟩,⟨⟨⟨⟨rfl,rfl⟩,rfl⟩,⟨⟨⟨rfl,rfl⟩,rfl⟩,trivial⟩⟩,⟨⟨⟨⟨rfl,rfl⟩,rfl⟩,⟨⟨⟨rfl,rfl⟩,rfl⟩,trivial⟩⟩,⟨⟨⟨⟨rfl,rfl⟩,rfl⟩,⟨⟨⟨rfl,rfl⟩,rfl⟩,trivial⟩⟩,⟨⟨⟨⟨rfl,rfl⟩,rfl⟩,⟨⟨⟨rfl,rfl⟩,rfl⟩,trivial⟩⟩,⟨trivial,⟨trivial,⟨trivial,⟨trivial,⟨trivial,⟨trivial,⟨trivial,⟨trivial,⟨trivial,⟨trivial,trivial⟩⟩⟩⟩⟩⟩⟩⟩⟩⟩⟩⟩⟩⟩⟩⟩,h1⟩,⟨⟨⟨⟨rfl,rfl⟩,rfl⟩,⟨⟨⟨rfl,rfl⟩,rfl⟩,⟨⟨⟨rfl,rfl⟩,rfl⟩,trivial⟩⟩⟩,⟨⟨⟨⟨rfl,rfl⟩,rfl⟩,⟨⟨⟨rfl,rfl⟩,rfl⟩,trivial⟩⟩,⟨⟨⟨⟨rfl,rfl⟩,rfl⟩,⟨⟨⟨rfl,rfl⟩,rfl⟩,trivial⟩⟩,⟨⟨⟨⟨rfl,rfl⟩,rfl⟩,⟨⟨⟨rfl,rfl⟩,rfl⟩,trivial⟩⟩,⟨⟨⟨⟨rfl,rfl⟩,rfl⟩,⟨⟨⟨rfl,rfl⟩,rfl⟩,trivial⟩⟩,⟨trivial,⟨trivial,⟨trivial,⟨trivial,⟨trivial,⟨trivial,⟨trivial,⟨trivial,⟨trivial,⟨trivial,trivial⟩⟩⟩⟩⟩⟩⟩⟩⟩⟩⟩⟩⟩⟩⟩⟩,h2⟩,⟨⟨⟨⟨rfl,rfl⟩,rfl⟩,⟨⟨⟨rfl,rfl⟩,rfl⟩,⟨⟨⟨rfl,rfl⟩,rfl⟩,trivial⟩⟩⟩,⟨⟨⟨⟨rfl,rfl⟩,rfl⟩,⟨⟨⟨rfl,rfl⟩,rfl⟩,trivial⟩⟩,⟨⟨⟨⟨rfl,rfl⟩,rfl⟩,⟨⟨⟨rfl,rfl⟩,rfl⟩,trivial⟩⟩,⟨⟨⟨⟨rfl,rfl⟩,rfl⟩,⟨⟨⟨rfl,rfl⟩,rfl⟩,trivial⟩⟩,⟨⟨⟨⟨rfl,rfl⟩,rfl⟩,⟨⟨⟨rfl,rfl⟩,rfl⟩,trivial⟩⟩,⟨trivial,⟨trivial,⟨trivial,⟨trivial,⟨trivial,⟨trivial,⟨trivial,⟨trivial,⟨trivial,⟨trivial,trivial⟩⟩⟩⟩⟩⟩⟩⟩⟩⟩⟩⟩⟩⟩⟩⟩,h3⟩,⟨⟨⟨⟨rfl,rfl⟩,rfl⟩,⟨⟨⟨rfl,rfl⟩,rfl⟩,⟨⟨⟨rfl,rfl⟩,rfl⟩,trivial⟩⟩⟩,⟨⟨⟨⟨rfl,rfl⟩,rfl⟩,⟨⟨⟨rfl,rfl⟩,rfl⟩,trivial⟩⟩,⟨⟨⟨⟨rfl,rfl⟩,rfl⟩,⟨⟨⟨rfl,rfl⟩,rfl⟩,trivial⟩⟩,⟨⟨⟨⟨rfl,rfl⟩,rfl⟩,⟨⟨⟨rfl,rfl⟩,rfl⟩,trivial⟩⟩,⟨⟨⟨⟨rfl,rfl⟩,rfl⟩,⟨⟨⟨rfl,rfl⟩,rfl⟩,trivial⟩⟩,⟨trivial,⟨trivial,⟨trivial,⟨trivial,⟨trivial,⟨trivial,⟨trivial,⟨trivial,⟨trivial,⟨trivial,trivial⟩⟩⟩⟩⟩⟩⟩⟩⟩⟩⟩⟩⟩⟩⟩⟩
theorem w36_came (n : Nat) (v : Int) (us : List Value) (h0 : 1 ≤ 1∧0 + n * 1 ≤ List.length us∧capOf (2 * n + 1) < n + 1∧(n + 1) * 1 ≤ 140737488355328∧n + 1 ≤ 4611686018427387904∧List.length (List.take (n * 1) (List.drop 0 us)) = n * 1∧1 = 1∧true = true∧capOpen (2 * n + 1) = true∧1 = 1∧0 + capOf (2 * n + 1) * 1 = List.length us) (h1 : 1 ≤ 1∧0 + (n + 1) * 1 ≤ List.length (List.take (n * 1) (List.drop 0 us) ++ List.take 1 (List.drop 0 [Value.int .u8 (IntKind.wrap .u8 (Int.fdiv (IntKind.wrap .u64 v) 72057594037927936))]))∧capOf (2 * (n + 1) + 1) < n + 1 + 1∧(n + 1 + 1) * 1 ≤ 140737488355328∧n + 1 + 1 ≤ 4611686018427387904∧List.length (List.take ((n + 1) * 1) (List.drop 0 (List.take (n * 1) (List.drop 0 us) ++ List.take 1 (List.drop 0 [Value.int .u8 (IntKind.wrap .u8 (Int.fdiv (IntKind.wrap .u64 v) 72057594037927936))])))) = (n + 1) * 1∧1 = 1∧true = true∧capOpen (2 * (n + 1) + 1) = true∧1 = 1∧0 + capOf (2 * (n + 1) + 1) * 1 = List.length (List.take (n * 1) (List.drop 0 us) ++ List.take 1 (List.drop 0 [Value.int .u8 (IntKind.wrap .u8 (Int.fdiv (IntKind.wrap .u64 v) 72057594037927936))]))) (h2 : 1 ≤ 1∧0 + (n + 1 + 1) * 1 ≤ List.length (List.take ((n + 1) * 1) (List.drop 0 (List.take (n * 1) (List.drop 0 us) ++ List.take 1 (List.drop 0 [Value.int .u8 (IntKind.wrap .u8 (Int.fdiv (IntKind.wrap .u64 v) 72057594037927936))]))) ++ List.take 1 (List.drop 0 [Value.int .u8 (IntKind.wrap .u8 (Int.fdiv (IntKind.wrap .u64 v) 281474976710656))]))∧capOf (2 * (n + 1 + 1) + 1) < n + 1 + 1 + 1∧(n + 1 + 1 + 1) * 1 ≤ 140737488355328∧n + 1 + 1 + 1 ≤ 4611686018427387904∧List.length (List.take ((n + 1 + 1) * 1) (List.drop 0 (List.take ((n + 1) * 1) (List.drop 0 (List.take (n * 1) (List.drop 0 us) ++ List.take 1 (List.drop 0 [Value.int .u8 (IntKind.wrap .u8 (Int.fdiv (IntKind.wrap .u64 v) 72057594037927936))]))) ++ List.take 1 (List.drop 0 [Value.int .u8 (IntKind.wrap .u8 (Int.fdiv (IntKind.wrap .u64 v) 281474976710656))])))) = (n + 1 + 1) * 1∧1 = 1∧true = true∧capOpen (2 * (n + 1 + 1) + 1) = true∧1 = 1∧0 + capOf (2 * (n + 1 + 1) + 1) * 1 = List.length (List.take ((n + 1) * 1) (List.drop 0 (List.take (n * 1) (List.drop 0 us) ++ List.take 1 (List.drop 0 [Value.int .u8 (IntKind.wrap .u8 (Int.fdiv (IntKind.wrap .u64 v) 72057594037927936))]))) ++ List.take 1 (List.drop 0 [Value.int .u8 (IntKind.wrap .u8 (Int.fdiv (IntKind.wrap .u64 v) 281474976710656))]))) (h3 : 1 ≤ 1∧0 + (n + 1 + 1 + 1) * 1 ≤ List.length (List.take ((n + 1 + 1) * 1) (List.drop 0 (List.take ((n + 1) * 1) (List.drop 0 (List.take (n * 1) (List.drop 0 us) ++ List.take 1 (List.drop 0 [Value.int .u8 (IntKind.wrap .u8 (Int.fdiv (IntKind.wrap .u64 v) 72057594037927936))]))) ++ List.take 1 (List.drop 0 [Value.int .u8 (IntKind.wrap .u8 (Int.fdiv (IntKind.wrap .u64 v) 281474976710656))]))) ++ List.take 1 (List.drop 0 [Value.int .u8 (IntKind.wrap .u8 (Int.fdiv (IntKind.wrap .u64 v) 1099511627776))]))∧capOf (2 * (n + 1 + 1 + 1) + 1) < n + 1 + 1 + 1 + 1∧(n + 1 + 1 + 1 + 1) * 1 ≤ 140737488355328∧n + 1 + 1 + 1 + 1 ≤ 4611686018427387904∧List.length (List.take ((n + 1 + 1 + 1) * 1) (List.drop 0 (List.take ((n + 1 + 1) * 1) (List.drop 0 (List.take ((n + 1) * 1) (List.drop 0 (List.take (n * 1) (List.drop 0 us) ++ List.take 1 (List.drop 0 [Value.int .u8 (IntKind.wrap .u8 (Int.fdiv (IntKind.wrap .u64 v) 72057594037927936))]))) ++ List.take 1 (List.drop 0 [Value.int .u8 (IntKind.wrap .u8 (Int.fdiv (IntKind.wrap .u64 v) 281474976710656))]))) ++ List.take 1 (List.drop 0 [Value.int .u8 (IntKind.wrap .u8 (Int.fdiv (IntKind.wrap .u64 v) 1099511627776))])))) = (n + 1 + 1 + 1) * 1∧1 = 1∧true = true∧capOpen (2 * (n + 1 + 1 + 1) + 1) = true∧1 = 1∧0 + capOf (2 * (n + 1 + 1 + 1) + 1) * 1 = List.length (List.take ((n + 1 + 1) * 1) (List.drop 0 (List.take ((n + 1) * 1) (List.drop 0 (List.take (n * 1) (List.drop 0 us) ++ List.take 1 (List.drop 0 [Value.int .u8 (IntKind.wrap .u8 (Int.fdiv (IntKind.wrap .u64 v) 72057594037927936))]))) ++ List.take 1 (List.drop 0 [Value.int .u8 (IntKind.wrap .u8 (Int.fdiv (IntKind.wrap .u64 v) 281474976710656))]))) ++ List.take 1 (List.drop 0 [Value.int .u8 (IntKind.wrap .u8 (Int.fdiv (IntKind.wrap .u64 v) 1099511627776))]))) (h4 : 1 ≤ 1∧0 + (n + 1 + 1 + 1 + 1) * 1 ≤ List.length (List.take ((n + 1 + 1 + 1) * 1) (List.drop 0 (List.take ((n + 1 + 1) * 1) (List.drop 0 (List.take ((n + 1) * 1) (List.drop 0 (List.take (n * 1) (List.drop 0 us) ++ List.take 1 (List.drop 0 [Value.int .u8 (IntKind.wrap .u8 (Int.fdiv (IntKind.wrap .u64 v) 72057594037927936))]))) ++ List.take 1 (List.drop 0 [Value.int .u8 (IntKind.wrap .u8 (Int.fdiv (IntKind.wrap .u64 v) 281474976710656))]))) ++ List.take 1 (List.drop 0 [Value.int .u8 (IntKind.wrap .u8 (Int.fdiv (IntKind.wrap .u64 v) 1099511627776))]))) ++ List.take 1 (List.drop 0 [Value.int .u8 (IntKind.wrap .u8 (Int.fdiv (IntKind.wrap .u64 v) 4294967296))]))∧capOf (2 * (n + 1 + 1 + 1 + 1) + 1) < n + 1 + 1 + 1 + 1 + 1∧(n + 1 + 1 + 1 + 1 + 1) * 1 ≤ 140737488355328∧n + 1 + 1 + 1 + 1 + 1 ≤ 4611686018427387904∧List.length (List.take ((n + 1 + 1 + 1 + 1) * 1) (List.drop 0 (List.take ((n + 1 + 1 + 1) * 1) (List.drop 0 (List.take ((n + 1 + 1) * 1) (List.drop 0 (List.take ((n + 1) * 1) (List.drop 0 (List.take (n * 1) (List.drop 0 us) ++ List.take 1 (List.drop 0 [Value.int .u8 (IntKind.wrap .u8 (Int.fdiv (IntKind.wrap .u64 v) 72057594037927936))]))) ++ List.take 1 (List.drop 0 [Value.int .u8 (IntKind.wrap .u8 (Int.fdiv (IntKind.wrap .u64 v) 281474976710656))]))) ++ List.take 1 (List.drop 0 [Value.int .u8 (IntKind.wrap .u8 (Int.fdiv (IntKind.wrap .u64 v) 1099511627776))]))) ++ List.take 1 (List.drop 0 [Value.int .u8 (IntKind.wrap .u8 (Int.fdiv (IntKind.wrap .u64 v) 4294967296))])))) = (n + 1 + 1 + 1 + 1) * 1∧1 = 1∧true = true∧capOpen (2 * (n + 1 + 1 + 1 + 1) + 1) = true∧1 = 1∧0 + capOf (2 * (n + 1 + 1 + 1 + 1) + 1) * 1 = List.length (List.take ((n + 1 + 1 + 1) * 1) (List.drop 0 (List.take ((n + 1 + 1) * 1) (List.drop 0 (List.take ((n + 1) * 1) (List.drop 0 (List.take (n * 1) (List.drop 0 us) ++ List.take 1 (List.drop 0 [Value.int .u8 (IntKind.wrap .u8 (Int.fdiv (IntKind.wrap .u64 v) 72057594037927936))]))) ++ List.take 1 (List.drop 0 [Value.int .u8 (IntKind.wrap .u8 (Int.fdiv (IntKind.wrap .u64 v) 281474976710656))]))) ++ List.take 1 (List.drop 0 [Value.int .u8 (IntKind.wrap .u8 (Int.fdiv (IntKind.wrap .u64 v) 1099511627776))]))) ++ List.take 1 (List.drop 0 [Value.int .u8 (IntKind.wrap .u8 (Int.fdiv (IntKind.wrap .u64 v) 4294967296))]))) (h5 : 1 ≤ 1∧0 + (n + 1 + 1 + 1 + 1 + 1) * 1 ≤ List.length (List.take ((n + 1 + 1 + 1 + 1) * 1) (List.drop 0 (List.take ((n + 1 + 1 + 1) * 1) (List.drop 0 (List.take ((n + 1 + 1) * 1) (List.drop 0 (List.take ((n + 1) * 1) (List.drop 0 (List.take (n * 1) (List.drop 0 us) ++ List.take 1 (List.drop 0 [Value.int .u8 (IntKind.wrap .u8 (Int.fdiv (IntKind.wrap .u64 v) 72057594037927936))]))) ++ List.take 1 (List.drop 0 [Value.int .u8 (IntKind.wrap .u8 (Int.fdiv (IntKind.wrap .u64 v) 281474976710656))]))) ++ List.take 1 (List.drop 0 [Value.int .u8 (IntKind.wrap .u8 (Int.fdiv (IntKind.wrap .u64 v) 1099511627776))]))) ++ List.take 1 (List.drop 0 [Value.int .u8 (IntKind.wrap .u8 (Int.fdiv (IntKind.wrap .u64 v) 4294967296))]))) ++ List.take 1 (List.drop 0 [Value.int .u8 (IntKind.wrap .u8 (Int.fdiv (IntKind.wrap .u64 v) 16777216))]))∧capOf (2 * (n + 1 + 1 + 1 + 1 + 1) + 1) < n + 1 + 1 + 1 + 1 + 1 + 1∧(n + 1 + 1 + 1 + 1 + 1 + 1) * 1 ≤ 140737488355328∧n + 1 + 1 + 1 + 1 + 1 + 1 ≤ 4611686018427387904∧List.length (List.take ((n + 1 + 1 + 1 + 1 + 1) * 1) (List.drop 0 (List.take ((n + 1 + 1 + 1 + 1) * 1) (List.drop 0 (List.take ((n + 1 + 1 + 1) * 1) (List.drop 0 (List.take ((n + 1 + 1) * 1) (List.drop 0 (List.take ((n + 1) * 1) (List.drop 0 (List.take (n * 1) (List.drop 0 us) ++ List.take 1 (List.drop 0 [Value.int .u8 (IntKind.wrap .u8 (Int.fdiv (IntKind.wrap .u64 v) 72057594037927936))]))) ++ List.take 1 (List.drop 0 [Value.int .u8 (IntKind.wrap .u8 (Int.fdiv (IntKind.wrap .u64 v) 281474976710656))]))) ++ List.take 1 (List.drop 0 [Value.int .u8 (IntKind.wrap .u8 (Int.fdiv (IntKind.wrap .u64 v) 1099511627776))]))) ++ List.take 1 (List.drop 0 [Value.int .u8 (IntKind.wrap .u8 (Int.fdiv (IntKind.wrap .u64 v) 4294967296))]))) ++ List.take 1 (List.drop 0 [Value.int .u8 (IntKind.wrap .u8 (Int.fdiv (IntKind.wrap .u64 v) 16777216))])))) = (n + 1 + 1 + 1 + 1 + 1) * 1∧1 = 1∧true = true∧capOpen (2 * (n + 1 + 1 + 1 + 1 + 1) + 1) = true∧1 = 1∧0 + capOf (2 * (n + 1 + 1 + 1 + 1 + 1) + 1) * 1 = List.length (List.take ((n + 1 + 1 + 1 + 1) * 1) (List.drop 0 (List.take ((n + 1 + 1 + 1) * 1) (List.drop 0 (List.take ((n + 1 + 1) * 1) (List.drop 0 (List.take ((n + 1) * 1) (List.drop 0 (List.take (n * 1) (List.drop 0 us) ++ List.take 1 (List.drop 0 [Value.int .u8 (IntKind.wrap .u8 (Int.fdiv (IntKind.wrap .u64 v) 72057594037927936))]))) ++ List.take 1 (List.drop 0 [Value.int .u8 (IntKind.wrap .u8 (Int.fdiv (IntKind.wrap .u64 v) 281474976710656))]))) ++ List.take 1 (List.drop 0 [Value.int .u8 (IntKind.wrap .u8 (Int.fdiv (IntKind.wrap .u64 v) 1099511627776))]))) ++ List.take 1 (List.drop 0 [Value.int .u8 (IntKind.wrap .u8 (Int.fdiv (IntKind.wrap .u64 v) 4294967296))]))) ++ List.take 1 (List.drop 0 [Value.int .u8 (IntKind.wrap .u8 (Int.fdiv (IntKind.wrap .u64 v) 16777216))]))) (h6 : 1 ≤ 1∧0 + (n + 1 + 1 + 1 + 1 + 1 + 1) * 1 ≤ List.length (List.take ((n + 1 + 1 + 1 + 1 + 1) * 1) (List.drop 0 (List.take ((n + 1 + 1 + 1 + 1) * 1) (List.drop 0 (List.take ((n + 1 + 1 + 1) * 1) (List.drop 0 (List.take ((n + 1 + 1) * 1) (List.drop 0 (List.take ((n + 1) * 1) (List.drop 0 (List.take (n * 1) (List.drop 0 us) ++ List.take 1 (List.drop 0 [Value.int .u8 (IntKind.wrap .u8 (Int.fdiv (IntKind.wrap .u64 v) 72057594037927936))]))) ++ List.take 1 (List.drop 0 [Value.int .u8 (IntKind.wrap .u8 (Int.fdiv (IntKind.wrap .u64 v) 281474976710656))]))) ++ List.take 1 (List.drop 0 [Value.int .u8 (IntKind.wrap .u8 (Int.fdiv (IntKind.wrap .u64 v) 1099511627776))]))) ++ List.take 1 (List.drop 0 [Value.int .u8 (IntKind.wrap .u8 (Int.fdiv (IntKind.wrap .u64 v) 4294967296))]))) ++ List.take 1 (List.drop 0 [Value.int .u8 (IntKind.wrap .u8 (Int.fdiv (IntKind.wrap .u64 v) 16777216))]))) ++ List.take 1 (List.drop 0 [Value.int .u8 (IntKind.wrap .u8 (Int.fdiv (IntKind.wrap .u64 v) 65536))]))∧capOf (2 * (n + 1 + 1 + 1 + 1 + 1 + 1) + 1) < n + 1 + 1 + 1 + 1 + 1 + 1 + 1∧(n + 1 + 1 + 1 + 1 + 1 + 1 + 1) * 1 ≤ 140737488355328∧n + 1 + 1 + 1 + 1 + 1 + 1 + 1 ≤ 4611686018427387904∧List.length (List.take ((n + 1 + 1 + 1 + 1 + 1 + 1) * 1) (List.drop 0 (List.take ((n + 1 + 1 + 1 + 1 + 1) * 1) (List.drop 0 (List.take ((n + 1 + 1 + 1 + 1) * 1) (List.drop 0 (List.take ((n + 1 + 1 + 1) * 1) (List.drop 0 (List.take ((n + 1 + 1) * 1) (List.drop 0 (List.take ((n + 1) * 1) (List.drop 0 (List.take (n * 1) (List.drop 0 us) ++ List.take 1 (List.drop 0 [Value.int .u8 (IntKind.wrap .u8 (Int.fdiv (IntKind.wrap .u64 v) 72057594037927936))]))) ++ List.take 1 (List.drop 0 [Value.int .u8 (IntKind.wrap .u8 (Int.fdiv (IntKind.wrap .u64 v) 281474976710656))]))) ++ List.take 1 (List.drop 0 [Value.int .u8 (IntKind.wrap .u8 (Int.fdiv (IntKind.wrap .u64 v) 1099511627776))]))) ++ List.take 1 (List.drop 0 [Value.int .u8 (IntKind.wrap .u8 (Int.fdiv (IntKind.wrap .u64 v) 4294967296))]))) ++ List.take 1 (List.drop 0 [Value.int .u8 (IntKind.wrap .u8 (Int.fdiv (IntKind.wrap .u64 v) 16777216))]))) ++ List.take 1 (List.drop 0 [Value.int .u8 (IntKind.wrap .u8 (Int.fdiv (IntKind.wrap .u64 v) 65536))])))) = (n + 1 + 1 + 1 + 1 + 1 + 1) * 1∧1 = 1∧true = true∧capOpen (2 * (n + 1 + 1 + 1 + 1 + 1 + 1) + 1) = true∧1 = 1∧0 + capOf (2 * (n + 1 + 1 + 1 + 1 + 1 + 1) + 1) * 1 = List.length (List.take ((n + 1 + 1 + 1 + 1 + 1) * 1) (List.drop 0 (List.take ((n + 1 + 1 + 1 + 1) * 1) (List.drop 0 (List.take ((n + 1 + 1 + 1) * 1) (List.drop 0 (List.take ((n + 1 + 1) * 1) (List.drop 0 (List.take ((n + 1) * 1) (List.drop 0 (List.take (n * 1) (List.drop 0 us) ++ List.take 1 (List.drop 0 [Value.int .u8 (IntKind.wrap .u8 (Int.fdiv (IntKind.wrap .u64 v) 72057594037927936))]))) ++ List.take 1 (List.drop 0 [Value.int .u8 (IntKind.wrap .u8 (Int.fdiv (IntKind.wrap .u64 v) 281474976710656))]))) ++ List.take 1 (List.drop 0 [Value.int .u8 (IntKind.wrap .u8 (Int.fdiv (IntKind.wrap .u64 v) 1099511627776))]))) ++ List.take 1 (List.drop 0 [Value.int .u8 (IntKind.wrap .u8 (Int.fdiv (IntKind.wrap .u64 v) 4294967296))]))) ++ List.take 1 (List.drop 0 [Value.int .u8 (IntKind.wrap .u8 (Int.fdiv (IntKind.wrap .u64 v) 16777216))]))) ++ List.take 1 (List.drop 0 [Value.int .u8 (IntKind.wrap .u8 (Int.fdiv (IntKind.wrap .u64 v) 65536))]))) (h7 : 1 ≤ 1∧0 + (n + 1 + 1 + 1 + 1 + 1 + 1 + 1) * 1 ≤ List.length (List.take ((n + 1 + 1 + 1 + 1 + 1 + 1) * 1) (List.drop 0 (List.take ((n + 1 + 1 + 1 + 1 + 1) * 1) (List.drop 0 (List.take ((n + 1 + 1 + 1 + 1) * 1) (List.drop 0 (List.take ((n + 1 + 1 + 1) * 1) (List.drop 0 (List.take ((n + 1 + 1) * 1) (List.drop 0 (List.take ((n + 1) * 1) (List.drop 0 (List.take (n * 1) (List.drop 0 us) ++ List.take 1 (List.drop 0 [Value.int .u8 (IntKind.wrap .u8 (Int.fdiv (IntKind.wrap .u64 v) 72057594037927936))]))) ++ List.take 1 (List.drop 0 [Value.int .u8 (IntKind.wrap .u8 (Int.fdiv (IntKind.wrap .u64 v) 281474976710656))]))) ++ List.take 1 (List.drop 0 [Value.int .u8 (IntKind.wrap .u8 (Int.fdiv (IntKind.wrap .u64 v) 1099511627776))]))) ++ List.take 1 (List.drop 0 [Value.int .u8 (IntKind.wrap .u8 (Int.fdiv (IntKind.wrap .u64 v) 4294967296))]))) ++ List.take 1 (List.drop 0 [Value.int .u8 (IntKind.wrap .u8 (Int.fdiv (IntKind.wrap .u64 v) 16777216))]))) ++ List.take 1 (List.drop 0 [Value.int .u8 (IntKind.wrap .u8 (Int.fdiv (IntKind.wrap .u64 v) 65536))]))) ++ List.take 1 (List.drop 0 [Value.int .u8 (IntKind.wrap .u8 (Int.fdiv (IntKind.wrap .u64 v) 256))]))∧capOf (2 * (n + 1 + 1 + 1 + 1 + 1 + 1 + 1) + 1) < n + 1 + 1 + 1 + 1 + 1 + 1 + 1 + 1∧(n + 1 + 1 + 1 + 1 + 1 + 1 + 1 + 1) * 1 ≤ 140737488355328∧n + 1 + 1 + 1 + 1 + 1 + 1 + 1 + 1 ≤ 4611686018427387904∧List.length (List.take ((n + 1 + 1 + 1 + 1 + 1 + 1 + 1) * 1) (List.drop 0 (List.take ((n + 1 + 1 + 1 + 1 + 1 + 1) * 1) (List.drop 0 (List.take ((n + 1 + 1 + 1 + 1 + 1) * 1) (List.drop 0 (List.take ((n + 1 + 1 + 1 + 1) * 1) (List.drop 0 (List.take ((n + 1 + 1 + 1) * 1) (List.drop 0 (List.take ((n + 1 + 1) * 1) (List.drop 0 (List.take ((n + 1) * 1) (List.drop 0 (List.take (n * 1) (List.drop 0 us) ++ List.take 1 (List.drop 0 [Value.int .u8 (IntKind.wrap .u8 (Int.fdiv (IntKind.wrap .u64 v) 72057594037927936))]))) ++ List.take 1 (List.drop 0 [Value.int .u8 (IntKind.wrap .u8 (Int.fdiv (IntKind.wrap .u64 v) 281474976710656))]))) ++ List.take 1 (List.drop 0 [Value.int .u8 (IntKind.wrap .u8 (Int.fdiv (IntKind.wrap .u64 v) 1099511627776))]))) ++ List.take 1 (List.drop 0 [Value.int .u8 (IntKind.wrap .u8 (Int.fdiv (IntKind.wrap .u64 v) 4294967296))]))) ++ List.take 1 (List.drop 0 [Value.int .u8 (IntKind.wrap .u8 (Int.fdiv (IntKind.wrap .u64 v) 16777216))]))) ++ List.take 1 (List.drop 0 [Value.int .u8 (IntKind.wrap .u8 (Int.fdiv (IntKind.wrap .u64 v) 65536))]))) ++ List.take 1 (List.drop 0 [Value.int .u8 (IntKind.wrap .u8 (Int.fdiv (IntKind.wrap .u64 v) 256))])))) = (n + 1 + 1 + 1 + 1 + 1 + 1 + 1) * 1∧1 = 1∧true = true∧capOpen (2 * (n + 1 + 1 + 1 + 1 + 1 + 1 + 1) + 1) = true∧1 = 1∧0 + capOf (2 * (n + 1 + 1 + 1 + 1 + 1 + 1 + 1) + 1) * 1 = List.length (List.take ((n + 1 + 1 + 1 + 1 + 1 + 1) * 1) (List.drop 0 (List.take ((n + 1 + 1 + 1 + 1 + 1) * 1) (List.drop 0 (List.take ((n + 1 + 1 + 1 + 1) * 1) (List.drop 0 (List.take ((n + 1 + 1 + 1) * 1) (List.drop 0 (List.take ((n + 1 + 1) * 1) (List.drop 0 (List.take ((n + 1) * 1) (List.drop 0 (List.take (n * 1) (List.drop 0 us) ++ List.take 1 (List.drop 0 [Value.int .u8 (IntKind.wrap .u8 (Int.fdiv (IntKind.wrap .u64 v) 72057594037927936))]))) ++ List.take 1 (List.drop 0 [Value.int .u8 (IntKind.wrap .u8 (Int.fdiv (IntKind.wrap .u64 v) 281474976710656))]))) ++ List.take 1 (List.drop 0 [Value.int .u8 (IntKind.wrap .u8 (Int.fdiv (IntKind.wrap .u64 v) 1099511627776))]))) ++ List.take 1 (List.drop 0 [Value.int .u8 (IntKind.wrap .u8 (Int.fdiv (IntKind.wrap .u64 v) 4294967296))]))) ++ List.take 1 (List.drop 0 [Value.int .u8 (IntKind.wrap .u8 (Int.fdiv (IntKind.wrap .u64 v) 16777216))]))) ++ List.take 1 (List.drop 0 [Value.int .u8 (IntKind.wrap .u8 (Int.fdiv (IntKind.wrap .u64 v) 65536))]))) ++ List.take 1 (List.drop 0 [Value.int .u8 (IntKind.wrap .u8 (Int.fdiv (IntKind.wrap .u64 v) 256))]))) :
  RanC (runO Tryz.prog E1 (sm0) noRun 100 21 [Value.pointer (some ⟨0,0,none⟩),Value.int .i64 v] (mkHp 2 (oWr n us)) [.skip 24,.grow true,.skip 20,.grow true,.skip 20,.grow true,.skip 20,.grow true,.skip 20,.grow true,.skip 20,.grow true,.skip 20,.grow true,.skip 20,.grow true] True) (.returned (Value.tuple (Array.mk []))) [(0,AObj.cells [Value.slice (some ⟨17,0,none⟩) (n + 1 + 1 + 1 + 1 + 1 + 1 + 1 + 1) (2 * (n + 1 + 1 + 1 + 1 + 1 + 1 + 1 + 1) + 1)] 0),(1,AObj.dead),(2,AObj.cells [Value.int .u8 (IntKind.wrap .u8 (Int.fdiv (IntKind.wrap .u64 v) 72057594037927936))] 0),(3,AObj.dead),(4,AObj.cells [Value.int .u8 (IntKind.wrap .u8 (Int.fdiv (IntKind.wrap .u64 v) 281474976710656))] 0),(5,AObj.dead),(6,AObj.cells [Value.int .u8 (IntKind.wrap .u8 (Int.fdiv (IntKind.wrap .u64 v) 1099511627776))] 0),(7,AObj.dead),(8,AObj.cells [Value.int .u8 (IntKind.wrap .u8 (Int.fdiv (IntKind.wrap .u64 v) 4294967296))] 0),(9,AObj.dead),(10,AObj.cells [Value.int .u8 (IntKind.wrap .u8 (Int.fdiv (IntKind.wrap .u64 v) 16777216))] 0),(11,AObj.dead),(12,AObj.cells [Value.int .u8 (IntKind.wrap .u8 (Int.fdiv (IntKind.wrap .u64 v) 65536))] 0),(13,AObj.dead),(14,AObj.cells [Value.int .u8 (IntKind.wrap .u8 (Int.fdiv (IntKind.wrap .u64 v) 256))] 0),(15,AObj.dead),(16,AObj.cells [Value.int .u8 (IntKind.wrap .u8 (Int.fdiv (IntKind.wrap .u64 v) 1))] 0),(17,AObj.cells (List.take ((n + 1 + 1 + 1 + 1 + 1 + 1 + 1) * 1) (List.drop 0 (List.take ((n + 1 + 1 + 1 + 1 + 1 + 1) * 1) (List.drop 0 (List.take ((n + 1 + 1 + 1 + 1 + 1) * 1) (List.drop 0 (List.take ((n + 1 + 1 + 1 + 1) * 1) (List.drop 0 (List.take ((n + 1 + 1 + 1) * 1) (List.drop 0 (List.take ((n + 1 + 1) * 1) (List.drop 0 (List.take ((n + 1) * 1) (List.drop 0 (List.take (n * 1) (List.drop 0 us) ++ List.take 1 (List.drop 0 [Value.int .u8 (IntKind.wrap .u8 (Int.fdiv (IntKind.wrap .u64 v) 72057594037927936))]))) ++ List.take 1 (List.drop 0 [Value.int .u8 (IntKind.wrap .u8 (Int.fdiv (IntKind.wrap .u64 v) 281474976710656))]))) ++ List.take 1 (List.drop 0 [Value.int .u8 (IntKind.wrap .u8 (Int.fdiv (IntKind.wrap .u64 v) 1099511627776))]))) ++ List.take 1 (List.drop 0 [Value.int .u8 (IntKind.wrap .u8 (Int.fdiv (IntKind.wrap .u64 v) 4294967296))]))) ++ List.take 1 (List.drop 0 [Value.int .u8 (IntKind.wrap .u8 (Int.fdiv (IntKind.wrap .u64 v) 16777216))]))) ++ List.take 1 (List.drop 0 [Value.int .u8 (IntKind.wrap .u8 (Int.fdiv (IntKind.wrap .u64 v) 65536))]))) ++ List.take 1 (List.drop 0 [Value.int .u8 (IntKind.wrap .u8 (Int.fdiv (IntKind.wrap .u64 v) 256))]))) ++ List.take 1 (List.drop 0 [Value.int .u8 (IntKind.wrap .u8 (Int.fdiv (IntKind.wrap .u64 v) 1))])) 1)] 18 :=
 cameCF_of (O:=let x9:=true = true∧true = true;let x0:=x9∧Value.pointer (some (Addr.mk 0 0 none)) = Value.pointer (some (Addr.mk 0 0 none));let x6:=List.take (n * 1) (List.drop 0 us) ++ List.take 1 (List.drop 0 [Value.int .u8 (IntKind.wrap .u8 (Int.fdiv (IntKind.wrap .u64 v) 72057594037927936))]);let x2:=List.take ((n + 1) * 1) (List.drop 0 x6) ++ List.take 1 (List.drop 0 [Value.int .u8 (IntKind.wrap .u8 (Int.fdiv (IntKind.wrap .u64 v) 281474976710656))]);let x5:=List.take ((n + 1 + 1) * 1) (List.drop 0 x2) ++ List.take 1 (List.drop 0 [Value.int .u8 (IntKind.wrap .u8 (Int.fdiv (IntKind.wrap .u64 v) 1099511627776))]);let x1:=List.take ((n + 1 + 1 + 1) * 1) (List.drop 0 x5) ++ List.take 1 (List.drop 0 [Value.int .u8 (IntKind.wrap .u8 (Int.fdiv (IntKind.wrap .u64 v) 4294967296))]);let x21:=(n + 1 + 1 + 1 + 1 + 1) * 1;let x4:=List.take ((n + 1 + 1 + 1 + 1) * 1) (List.drop 0 x1) ++ List.take 1 (List.drop 0 [Value.int .u8 (IntKind.wrap .u8 (Int.fdiv (IntKind.wrap .u64 v) 16777216))]);let x3:=List.take x21 (List.drop 0 x4) ++ List.take 1 (List.drop 0 [Value.int .u8 (IntKind.wrap .u8 (Int.fdiv (IntKind.wrap .u64 v) 65536))]);let x7:=n + 1 + 1 + 1 + 1 + 1 + 1;let x8:=n + 1 + 1 + 1 + 1 + 1 + 1 + 1;let x10:=List.take (x7 * 1) (List.drop 0 x3) ++ List.take 1 (List.drop 0 [Value.int .u8 (IntKind.wrap .u8 (Int.fdiv (IntKind.wrap .u64 v) 256))]);let x22:=some (Addr.mk 11 0 none);let x16:=2 * (n + 1 + 1 + 1 + 1 + 1) + 1;let x11:=x9∧Value.slice x22 (n + 1 + 1 + 1 + 1 + 1) x16 = Value.slice x22 (n + 1 + 1 + 1 + 1 + 1) x16;let x20:=2 * (n + 1 + 1 + 1 + 1) + 1;let x12:=x9∧Value.slice (some (Addr.mk 9 0 none)) (n + 1 + 1 + 1 + 1) x20 = Value.slice (some (Addr.mk 9 0 none)) (n + 1 + 1 + 1 + 1) x20;let x13:=x9∧Value.slice (some (Addr.mk 7 0 none)) (n + 1 + 1 + 1) (2 * (n + 1 + 1 + 1) + 1) = Value.slice (some (Addr.mk 7 0 none)) (n + 1 + 1 + 1) (2 * (n + 1 + 1 + 1) + 1);let x14:=x9∧Value.slice (some (Addr.mk 5 0 none)) (n + 1 + 1) (2 * (n + 1 + 1) + 1) = Value.slice (some (Addr.mk 5 0 none)) (n + 1 + 1) (2 * (n + 1 + 1) + 1);let x15:=x9∧Value.slice (some (Addr.mk 3 0 none)) (n + 1) (2 * (n + 1) + 1) = Value.slice (some (Addr.mk 3 0 none)) (n + 1) (2 * (n + 1) + 1);let x23:=some (Addr.mk 13 0 none);let x17:=x9∧Value.slice x23 x7 (2 * x7 + 1) = Value.slice x23 x7 (2 * x7 + 1);let x24:=some (Addr.mk 15 0 none);let x18:=x9∧Value.slice x24 x8 (2 * x8 + 1) = Value.slice x24 x8 (2 * x8 + 1);let x19:=x9∧Value.slice (some (Addr.mk 1 0 none)) n (2 * n + 1) = Value.slice (some (Addr.mk 1 0 none)) n (2 * n + 1);(((((((((((((((True∧1 ≤ 1∧0 + n * 1 ≤ List.length us∧capOf (2 * n + 1) < n + 1∧(n + 1) * 1 ≤ 140737488355328∧n + 1 ≤ 4611686018427387904∧List.length (List.take (n * 1) (List.drop 0 us)) = n * 1∧1 = 1∧true = true∧capOpen (2 * n + 1) = true∧1 = 1∧0 + capOf (2 * n + 1) * 1 = List.length us)∧(x0∧x0∧x0∧True)∧(x0∧x0∧True)∧(x0∧x0∧True)∧(x0∧x0∧True)∧(x19∧x19∧True)∧True∧True∧True∧True∧True∧True∧True∧True∧True∧True∧True)∧1 ≤ 1∧0 + (n + 1) * 1 ≤ List.length x6∧capOf (2 * (n + 1) + 1) < n + 1 + 1∧(n + 1 + 1) * 1 ≤ 140737488355328∧n + 1 + 1 ≤ 4611686018427387904∧List.length (List.take ((n + 1) * 1) (List.drop 0 x6)) = (n + 1) * 1∧1 = 1∧true = true∧capOpen (2 * (n + 1) + 1) = true∧1 = 1∧0 + capOf (2 * (n + 1) + 1) * 1 = List.length x6)∧(x0∧x0∧x0∧True)∧(x0∧x0∧True)∧(x0∧x0∧True)∧(x0∧x0∧True)∧(x15∧x15∧True)∧True∧True∧True∧True∧True∧True∧True∧True∧True∧True∧True)∧1 ≤ 1∧0 + (n + 1 + 1) * 1 ≤ List.length x2∧capOf (2 * (n + 1 + 1) + 1) < n + 1 + 1 + 1∧(n + 1 + 1 + 1) * 1 ≤ 140737488355328∧n + 1 + 1 + 1 ≤ 4611686018427387904∧List.length (List.take ((n + 1 + 1) * 1) (List.drop 0 x2)) = (n + 1 + 1) * 1∧1 = 1∧true = true∧capOpen (2 * (n + 1 + 1) + 1) = true∧1 = 1∧0 + capOf (2 * (n + 1 + 1) + 1) * 1 = List.length x2)∧(x0∧x0∧x0∧True)∧(x0∧x0∧True)∧(x0∧x0∧True)∧(x0∧x0∧True)∧(x14∧x14∧True)∧True∧True∧True∧True∧True∧True∧True∧True∧True∧True∧True)∧1 ≤ 1∧0 + (n + 1 + 1 + 1) * 1 ≤ List.length x5∧capOf (2 * (n + 1 + 1 + 1) + 1) < n + 1 + 1 + 1 + 1∧(n + 1 + 1 + 1 + 1) * 1 ≤ 140737488355328∧n + 1 + 1 + 1 + 1 ≤ 4611686018427387904∧List.length (List.take ((n + 1 + 1 + 1) * 1) (List.drop 0 x5)) = (n + 1 + 1 + 1) * 1∧1 = 1∧true = true∧capOpen (2 * (n + 1 + 1 + 1) + 1) = true∧1 = 1∧0 + capOf (2 * (n + 1 + 1 + 1) + 1) * 1 = List.length x5)∧(x0∧x0∧x0∧True)∧(x0∧x0∧True)∧(x0∧x0∧True)∧(x0∧x0∧True)∧(x13∧x13∧True)∧True∧True∧True∧True∧True∧True∧True∧True∧True∧True∧True)∧1 ≤ 1∧0 + (n + 1 + 1 + 1 + 1) * 1 ≤ List.length x1∧capOf x20 < n + 1 + 1 + 1 + 1 + 1∧(n + 1 + 1 + 1 + 1 + 1) * 1 ≤ 140737488355328∧n + 1 + 1 + 1 + 1 + 1 ≤ 4611686018427387904∧List.length (List.take ((n + 1 + 1 + 1 + 1) * 1) (List.drop 0 x1)) = (n + 1 + 1 + 1 + 1) * 1∧1 = 1∧true = true∧capOpen x20 = true∧1 = 1∧0 + capOf x20 * 1 = List.length x1)∧(x0∧x0∧x0∧True)∧(x0∧x0∧True)∧(x0∧x0∧True)∧(x0∧x0∧True)∧(x12∧x12∧True)∧True∧True∧True∧True∧True∧True∧True∧True∧True∧True∧True)∧1 ≤ 1∧0 + (n + 1 + 1 + 1 + 1 + 1) * 1 ≤ List.length x4∧capOf x16 < n + 1 + 1 + 1 + 1 + 1 + 1∧x7 * 1 ≤ 140737488355328∧n + 1 + 1 + 1 + 1 + 1 + 1 ≤ 4611686018427387904∧List.length (List.take x21 (List.drop 0 x4)) = (n + 1 + 1 + 1 + 1 + 1) * 1∧1 = 1∧true = true∧capOpen x16 = true∧1 = 1∧0 + capOf x16 * 1 = List.length x4)∧(x0∧x0∧x0∧True)∧(x0∧x0∧True)∧(x0∧x0∧True)∧(x0∧x0∧True)∧(x11∧x11∧True)∧True∧True∧True∧True∧True∧True∧True∧True∧True∧True∧True)∧1 ≤ 1∧0 + x7 * 1 ≤ List.length x3∧capOf (2 * x7 + 1) < n + 1 + 1 + 1 + 1 + 1 + 1 + 1∧x8 * 1 ≤ 140737488355328∧n + 1 + 1 + 1 + 1 + 1 + 1 + 1 ≤ 4611686018427387904∧List.length (List.take (x7 * 1) (List.drop 0 x3)) = x7 * 1∧1 = 1∧true = true∧capOpen (2 * x7 + 1) = true∧1 = 1∧0 + capOf (2 * x7 + 1) * 1 = List.length x3)∧(x0∧x0∧x0∧True)∧(x0∧x0∧True)∧(x0∧x0∧True)∧(x0∧x0∧True)∧(x17∧x17∧True)∧True∧True∧True∧True∧True∧True∧True∧True∧True∧True∧True)∧1 ≤ 1∧0 + x8 * 1 ≤ List.length x10∧capOf (2 * x8 + 1) < n + 1 + 1 + 1 + 1 + 1 + 1 + 1 + 1∧(n + 1 + 1 + 1 + 1 + 1 + 1 + 1 + 1) * 1 ≤ 140737488355328∧n + 1 + 1 + 1 + 1 + 1 + 1 + 1 + 1 ≤ 4611686018427387904∧List.length (List.take (x8 * 1) (List.drop 0 x10)) = x8 * 1∧1 = 1∧true = true∧capOpen (2 * x8 + 1) = true∧1 = 1∧0 + capOf (2 * x8 + 1) * 1 = List.length x10)∧(x0∧x0∧x0∧True)∧(x0∧x0∧True)∧(x0∧x0∧True)∧(x0∧x0∧True)∧(x18∧x18∧True)∧True∧True∧True∧True∧True∧True∧True∧True∧True∧True∧True) (by kernel_rfl) ⟨⟨⟨⟨⟨⟨⟨⟨⟨⟨⟨⟨⟨⟨⟨⟨trivial,h0⟩,⟨⟨⟨⟨rfl,rfl⟩,rfl⟩,⟨⟨⟨rfl,rfl⟩,rfl⟩,⟨⟨⟨rfl,rfl⟩,rfl⟩,trivial⟩⟩⟩,⟨⟨⟨⟨rfl,rfl⟩,rfl⟩,⟨⟨⟨rfl,rfl⟩,rfl⟩,trivial⟩⟩,⟨⟨⟨⟨rfl,rfl⟩,rfl⟩,⟨⟨⟨rfl,rfl⟩,rfl⟩,trivial⟩⟩,⟨⟨⟨⟨rfl,rfl⟩,rfl⟩,⟨⟨⟨rfl,rfl⟩,rfl⟩,trivial⟩⟩,⟨⟨⟨⟨rfl,rfl⟩,rfl⟩,⟨⟨⟨rfl,rfl⟩,rfl⟩,trivial⟩⟩,⟨trivial,⟨trivial,⟨trivial,⟨trivial,⟨trivial,⟨trivial,⟨trivial,⟨trivial,⟨trivial,⟨trivial,trivial⟩⟩⟩⟩⟩⟩⟩⟩⟩⟩⟩⟩⟩⟩⟩⟩,h1⟩,⟨⟨⟨⟨rfl,rfl⟩,rfl⟩,⟨⟨⟨rfl,rfl⟩,rfl⟩,⟨⟨⟨rfl,rfl⟩,rfl⟩,trivial⟩⟩⟩,⟨⟨⟨⟨rfl,rfl⟩,rfl⟩,⟨⟨⟨rfl,rfl⟩,rfl⟩,trivial⟩⟩,⟨⟨⟨⟨rfl,rfl⟩,rfl⟩,⟨⟨⟨rfl,rfl⟩,rfl⟩,trivial⟩⟩,⟨⟨⟨⟨rfl,rfl⟩,rfl⟩,⟨⟨⟨rfl,rfl⟩,rfl⟩,trivial⟩⟩,⟨⟨⟨⟨rfl,rfl⟩,rfl⟩,⟨⟨⟨rfl,rfl⟩,rfl⟩,trivial⟩⟩,⟨trivial,⟨trivial,⟨trivial,⟨trivial,⟨trivial,⟨trivial,⟨trivial,⟨trivial,⟨trivial,⟨trivial,trivial⟩⟩⟩⟩⟩⟩⟩⟩⟩⟩⟩⟩⟩⟩⟩⟩,h2⟩,⟨⟨⟨⟨rfl,rfl⟩,rfl⟩,⟨⟨⟨rfl,rfl⟩,rfl⟩,⟨⟨⟨rfl,rfl⟩,rfl⟩,trivial⟩⟩⟩,⟨⟨⟨⟨rfl,rfl⟩,rfl⟩,⟨⟨⟨rfl,rfl⟩,rfl⟩,trivial⟩⟩,⟨⟨⟨⟨rfl,rfl⟩,rfl⟩,⟨⟨⟨rfl,rfl⟩,rfl⟩,trivial⟩⟩,⟨⟨⟨⟨rfl,rfl⟩,rfl⟩,⟨⟨⟨rfl,rfl⟩,rfl⟩,trivial⟩⟩,⟨⟨⟨⟨rfl,rfl⟩,rfl⟩,⟨⟨⟨rfl,rfl⟩,rfl⟩,trivial⟩⟩,⟨trivial,⟨trivial,⟨trivial,⟨trivial,⟨trivial,⟨trivial,⟨trivial,⟨trivial,⟨trivial,⟨trivial,trivial⟩⟩⟩⟩⟩⟩⟩⟩⟩⟩⟩⟩⟩⟩⟩⟩,h3⟩,⟨⟨⟨⟨rfl,rfl⟩,rfl⟩,⟨⟨⟨rfl,rfl⟩,rfl⟩,⟨⟨⟨rfl,rfl⟩,rfl⟩,trivial⟩⟩⟩,⟨⟨⟨⟨rfl,rfl⟩,rfl⟩,⟨⟨⟨rfl,rfl⟩,rfl⟩,trivial⟩⟩,⟨⟨⟨⟨rfl,rfl⟩,rfl⟩,⟨⟨⟨rfl,rfl⟩,rfl⟩,trivial⟩⟩,⟨⟨⟨⟨rfl,rfl⟩,rfl⟩,⟨⟨⟨rfl,rfl⟩,rfl⟩,trivial⟩⟩,⟨⟨⟨⟨rfl,rfl⟩,rfl⟩,⟨⟨⟨rfl,rfl⟩,rfl⟩,trivial⟩⟩,⟨trivial,⟨trivial,⟨trivial,⟨trivial,⟨trivial,⟨trivial,⟨trivial,⟨trivial,⟨trivial,⟨trivial,trivial⟩⟩⟩⟩⟩⟩⟩⟩⟩⟩⟩⟩⟩⟩⟩⟩,h4⟩,⟨⟨⟨⟨rfl,rfl⟩,rfl⟩,⟨⟨⟨rfl,rfl⟩,rfl⟩,⟨⟨⟨rfl,rfl⟩,rfl⟩,trivial⟩⟩⟩,⟨⟨⟨⟨rfl,rfl⟩,rfl⟩,⟨⟨⟨rfl,rfl⟩,rfl⟩,trivial⟩⟩,⟨⟨⟨⟨rfl,rfl⟩,rfl⟩,⟨⟨⟨rfl,rfl⟩,rfl⟩,trivial⟩⟩,⟨⟨⟨⟨rfl,rfl⟩,rfl⟩,⟨⟨⟨rfl,rfl⟩,rfl⟩,trivial⟩⟩,⟨⟨⟨⟨rfl,rfl⟩,rfl⟩,⟨⟨⟨rfl,rfl⟩,rfl⟩,trivial⟩⟩,⟨trivial,⟨trivial,⟨trivial,⟨trivial,⟨trivial,⟨trivial,⟨trivial,⟨trivial,⟨trivial,⟨trivial,trivial⟩⟩⟩⟩⟩⟩⟩⟩⟩⟩⟩⟩⟩⟩⟩⟩,h5⟩,⟨⟨⟨⟨rfl,rfl⟩,rfl⟩,⟨⟨⟨rfl,rfl⟩,rfl⟩,⟨⟨⟨rfl,rfl⟩,rfl⟩,trivial⟩⟩⟩,⟨⟨⟨⟨rfl,rfl⟩,rfl⟩,⟨⟨⟨rfl,rfl⟩,rfl⟩,trivial⟩⟩,⟨⟨⟨⟨rfl,rfl⟩,rfl⟩,⟨⟨⟨rfl,rfl⟩,rfl⟩,trivial⟩⟩,⟨⟨⟨⟨rfl,rfl⟩,rfl⟩,⟨⟨⟨rfl,rfl⟩,rfl⟩,trivial⟩⟩,⟨⟨⟨⟨rfl,rfl⟩,rfl⟩,⟨⟨⟨rfl,rfl⟩,rfl⟩,trivial⟩⟩,⟨trivial,⟨trivial,⟨trivial,⟨trivial,⟨trivial,⟨trivial,⟨trivial,⟨trivial,⟨trivial,⟨trivial,trivial⟩⟩⟩⟩⟩⟩⟩⟩⟩⟩⟩⟩⟩⟩⟩⟩,h6⟩,⟨⟨⟨⟨rfl,rfl⟩,rfl⟩,⟨⟨⟨rfl,rfl⟩,rfl⟩,⟨⟨⟨rfl,rfl⟩,rfl⟩,trivial⟩⟩⟩,⟨⟨⟨⟨rfl,rfl⟩,rfl⟩,⟨⟨⟨rfl,rfl⟩,rfl⟩,trivial⟩⟩,⟨⟨⟨⟨rfl,rfl⟩,rfl⟩,⟨⟨⟨rfl,rfl⟩,rfl⟩,trivial⟩⟩,⟨⟨⟨⟨rfl,rfl⟩,rfl⟩,⟨⟨⟨rfl,rfl⟩,rfl⟩,trivial⟩⟩,⟨⟨⟨⟨rfl,rfl⟩,rfl⟩,⟨⟨⟨rfl,rfl⟩,rfl⟩,trivial⟩⟩,⟨trivial,⟨trivial,⟨trivial,⟨trivial,⟨trivial,⟨trivial,⟨trivial,⟨trivial,⟨trivial,⟨trivial,trivial⟩⟩⟩⟩⟩⟩⟩⟩⟩⟩⟩⟩⟩⟩⟩⟩,h7⟩,⟨⟨⟨⟨rfl,rfl⟩,rfl⟩,⟨⟨⟨rfl,rfl⟩,rfl⟩,⟨⟨⟨rfl,rfl⟩,rfl⟩,trivial⟩⟩⟩,⟨⟨⟨⟨rfl,rfl⟩,rfl⟩,⟨⟨⟨rfl,rfl⟩,rfl⟩,trivial⟩⟩,⟨⟨⟨⟨rfl,rfl⟩,rfl⟩,⟨⟨⟨rfl,rfl⟩,rfl⟩,trivial⟩⟩,⟨⟨⟨⟨rfl,rfl⟩,rfl⟩,⟨⟨⟨rfl,rfl⟩,rfl⟩,trivial⟩⟩,⟨⟨⟨⟨rfl,rfl⟩,rfl⟩,⟨⟨⟨rfl,rfl⟩,rfl⟩,trivial⟩⟩,⟨trivial,⟨trivial,⟨trivial,⟨trivial,⟨trivial,⟨trivial,⟨trivial,⟨trivial,⟨trivial,⟨trivial,trivial⟩⟩⟩⟩⟩⟩⟩⟩⟩⟩⟩⟩⟩⟩⟩⟩
def wb (v : Int) (d : Int) : Value:=.int .u8 (IntKind.wrap IntKind.u8 (Int.fdiv (IntKind.wrap IntKind.u64 v) d))
def kX (xs : (Nat → Nat) → List Value) (ex : (Nat → Nat) → List (Nat × AObj)) (e n : Nat) (us g : List Value) (k : Nat) : ConL:=⟨fun σ => .pointer (some ⟨σ 0,0,none⟩) :: xs σ,
 fun σ => (0,.cells [.slice (some ⟨σ 1,0,none⟩) n (2 * n + 1)] 0) :: (1,.cells us 1) :: ex σ,2 + e,fun _ => .tuple #[],
 fun σ => [(0,.cells [.slice (some ⟨σ (2 + e),0,none⟩) (n + k) (2 * (n + k) + 1)] 0),(1,.dead)],
 fun σ => [.cells (us ++ g) 1]⟩
def kW (xs : List Value) (n : Nat) (us g : List Value) (k : Nat) : ConL:=kX (fun _ => xs) (fun _ => []) 0 n us g k
def isB : Value → Bool
 | .int .u8 _ => true
 | _ => false
def GT : Prot → World → Prop:=fun _ _ => True
theorem gt_stands : StandsL GT:=fun _ _ _ _ _ _ _ => trivial
theorem ConWG.toT {G : Prot → World → Prop} {P : Program} {f : FuncId} {c : ConW} (h : ConWG GT P f c) : ConWG G P f c :=
 ⟨h.lim,h.bd,h.ap,h.uv,h.un,by obtain ⟨μ,h1,h2⟩:=h.run;exact ⟨μ,fun pr w0 _ ι w hS => h1 pr w0 trivial ι w hS,h2⟩⟩
theorem localG_via {G : Prot → World → Prop} {P : Program} {E : Env} {f : FuncId} {args : List Value} {μL : Hp} {v v0 : Value} {os0 os : List (Nat × AObj)} {next0 next : Nat} (hP : Okk P E) {s : Sm} (hs : ∀ pr w0,G pr w0 → SmOk P E pr w0 s) {n : Nat} {orc : List Ans}
  (h : RanC (runO P E s noRun n f args μL orc True) (.returned v0) os0 next0) (σ : Nat → Nat) (hv : v0 = upV σ v) (ho : ∀ p ∈ os,(σ p.1,upO σ p.2) ∈ os0) (hinj : ∀ p ∈ os,∀ q ∈ os,p.1 ≠ q.1 → σ p.1 ≠ σ q.1) (hσ : ∀ n,n < μL.next → σ n = n)
  (hb : ∀ x ∈ args,Bd μL.next x) (hso : smallN os = true) (hbo : ∀ p ∈ os,p.1 < next∧BdO next p.2) (hlim : next ≤ limit) (hN : μL.next ≤ next) (he : Bd next v) : LocalG G P f args μL (.returned v) (mkHp next os):=by
 intro pr w0 hG ι w hS
 obtain ⟨h⟩:=h
 unfold CameC at h
 split at h
 ·rename_i e' μ' orc' O hc
  obtain ⟨hO,rfl,h4,h5⟩:=h
  have:=(runO_ok hP.hE hP.mix (hs pr w0 hG) noRun_ok n f args μL orc True _ μ' orc' O hc).2 hO ι w
  rw [hP.ng] at this
  refine (this hS hb).mono ?_
  rintro e1 w' ⟨ι',hx,hl,hS',hend⟩
  have hk : Keeps σ μ' (mkHp next os):=keeps_via hso (fun p hp => chkH_mem h4 _ (ho p hp)) hbo hinj hlim
  refine ⟨ι'.via σ,⟨fun n hn => ?_,fun n hn => ?_,fun n hn => ?_,hx.fz⟩,hN,hS'.keeps hk,?_⟩
  ·simp only [Ren.via,hσ n hn];exact hx.loc n hn
  ·simp only [Ren.via,hσ n hn];exact hx.ext n hn
  ·simp only [Ren.via,hσ n hn];exact hx.opq n hn
  ·cases e1 with
   | returned v' =>
    obtain ⟨rfl,_⟩:=hend
    subst hv
    exact ⟨conc_up ι' σ v,he⟩
   | _ => exact hend.elim
 ·exact h.elim
theorem isB_plain {us : List Value} (h : us.all isB = true) : PlainC us:=by
 intro v hv
 have:=List.all_eq_true.1 h v hv
 unfold isB at this
 split at this
 ·exact ⟨fun N => by simp,fun σ => by simp [upV]⟩
 ·cases this
theorem capOf_open (n : Nat) : capOf (2 * n + 1) = n:=by unfold capOf;omega
theorem capOpen_open (n : Nat) : capOpen (2 * n + 1) = true:=by
 unfold capOpen
 rw [show (2 * n + 1) % 2 = 1 by omega];rfl
structure Exs (xs : (Nat → Nat) → List Value) (ex : (Nat → Nat) → List (Nat × AObj)) (e : Nat) : Prop where
 bx : ∀ v ∈ xs fun n => n,Bd (2 + e) v
 ux : ∀ σ,xs σ = (xs fun n => n).map (upV σ)
 uo : ∀ σ,ex σ = (ex fun n => n).map fun p => (p.1,upO σ p.2)
 at_ : ∀ p ∈ ex fun n => n,2 ≤ p.1∧p.1 < 2 + e∧BdO (2 + e) p.2∧p.2.live = false
 lim : e < 100
theorem kX_ok {f : Nat} {xs : (Nat → Nat) → List Value} {ex : (Nat → Nat) → List (Nat × AObj)} {e n : Nat} {us g : List Value} {s : Sm} {fuel : Nat} {orc : List Ans} {os0 : List (Nat × AObj)} {row : List Value} {n2 c2 n1 k : Nat} (r : Nat) (hs : ∀ pr w0,GT pr w0 → SmOk Tryz.prog E1 pr w0 s)
  (h : RanC (runO Tryz.prog E1 s noRun fuel f (.pointer (some ⟨0,0,none⟩) :: xs fun n => n) (mkHp (2 + e) ((0,.cells [.slice (some ⟨1,0,none⟩) n (2 * n + 1)] 0) :: (1,.cells us 1) :: ex fun n => n)) orc True) (.returned (.tuple #[])) os0 n1) (h0 : (0,.cells [.slice (some ⟨r,0,none⟩) n2 c2] 0) ∈ os0) (h1 : (1,.dead) ∈ os0) (h2 : (r,.cells row 1) ∈ os0) (hr : 2 ≤ r)
  (ha : Exs xs ex e) (hu : us.all isB = true) (hg : g.all isB = true) (hrow : row = us ++ g) (hn2 : n2 = n + k) (hc2 : c2 = 2 * (n + k) + 1) : ConLG GT Tryz.prog f (kX xs ex e n us g k):=by
 subst hrow hn2 hc2
 have pu:=isB_plain hu
 have pg:=isB_plain hg
 have pug : PlainC (us ++ g):=fun v hv => by
  rcases List.mem_append.1 hv with h | h
  ·exact pu v h
  ·exact pg v h
 have hlim:=ha.lim
 have hos : ∀ p ∈ ((0,AObj.cells [.slice (some ⟨1,0,none⟩) n (2 * n + 1)] 0) :: (1,AObj.cells us 1) :: ex fun n => n),p.1 < 2 + e∧BdO (2 + e) p.2:=by
  intro p hp
  simp only [List.mem_cons] at hp
  rcases hp with rfl | rfl | hp
  ·refine ⟨by simp only;omega,?_⟩
   simp [BdO]
   omega
  ·exact ⟨by simp only;omega,fun v hv => (pu v hv).1 _⟩
  ·obtain ⟨_,g2,g3,_⟩:=ha.at_ p hp
   exact ⟨g2,g3⟩
 refine ⟨?_,fun p hp => (hos p hp).1,fun p hp => (hos p hp).2,?_,?_,?_,?_,?_,?_,?_,?_,?_,mkHp (2 + e + 1) [(0,.cells [.slice (some ⟨2 + e,0,none⟩) (n + k) (2 * (n + k) + 1)] 0),(1,.dead),(2 + e,.cells (us ++ g) 1)],localG_via (v:=.tuple #[]) (v0:=.tuple #[]) hP1 hs h (fun n => if n = 2 + e then r else n) (by simp [upV]) ?_ ?_ ?_ ?_ ?_ ?_ ?_ (by simp only [mkHp,kX];omega) (by simp),by simp [mkHp,kX],?_,?_⟩
 ·refine List.all_eq_true.2 fun p hp => ?_
  have:=(hos p hp).1
  rw [Nat.blt_eq]
  unfold limit
  omega
 ·intro x hx
  simp only [kX,List.mem_cons] at hx
  rcases hx with rfl | hx
  ·simp [kX];omega
  ·exact ha.bx x hx
 ·simp only [kX];unfold limit;omega
 ·intro p hp
  simp only [kX,List.mem_cons,List.not_mem_nil,or_false] at hp
  rcases hp with rfl | rfl <;> simp [kX] <;> omega
 ·intro p hp hlv
  simp only [kX,List.mem_cons] at hp
  rcases hp with rfl | rfl | hp
  ·exact ⟨_,List.mem_cons_self ..,rfl⟩
  ·exact ⟨_,List.mem_cons_of_mem _ (List.mem_cons_self ..),rfl⟩
  ·rw [(ha.at_ p hp).2.2.2] at hlv;cases hlv
 ·intro σ;simp [kX,upV,← ha.ux]
 ·intro σ
  have h1:=ha.uo σ
  simp only [kX,List.map_cons,h1]
  simp [upO,upV,pu.map]
 ·intro σ;simp [kX,upV]
 ·intro σ;simp [kX,upO,upV]
 ·intro σ;simp only [kX,List.map_cons,List.map_nil,upO,pug.map]
 ·intro p hp
  simp only [List.mem_cons,List.not_mem_nil,or_false] at hp
  rcases hp with rfl | rfl | rfl
  ·have e1 : ¬ (0 = 2 + e):=by omega
   simpa [upO,upV,e1] using h0
  ·have e1 : ¬ (1 = 2 + e):=by omega
   simpa [upO,e1] using h1
  ·simpa [upO,pug.map] using h2
 ·intro p hp q hq hne
  have e0 : ¬ (0 = 2 + e):=by omega
  have e1 : ¬ (1 = 2 + e):=by omega
  simp only [List.mem_cons,List.not_mem_nil,or_false] at hp hq
  rcases hp with rfl | rfl | rfl <;> rcases hq with rfl | rfl | rfl <;> simp [e0,e1] at hne ⊢ <;> omega
 ·intro m hm
  have hm : m < 2 + e:=hm
  rw [if_neg (by omega)]
 ·intro x hx
  simp only [kX,List.mem_cons] at hx
  rcases hx with rfl | hx
  ·exact (by simp;omega : Bd (2 + e) (Value.pointer (some ⟨0,0,none⟩)))
  ·exact ha.bx x hx
 ·refine List.all_eq_true.2 fun p hp => ?_
  simp only [List.mem_cons,List.not_mem_nil,or_false] at hp
  rw [Nat.blt_eq]
  unfold limit
  rcases hp with rfl | rfl | rfl <;> simp only <;> omega
 ·intro p hp
  simp only [List.mem_cons,List.not_mem_nil,or_false] at hp
  rcases hp with rfl | rfl | rfl
  ·exact ⟨by simp only;omega,by simp [BdO]⟩
  ·exact ⟨by simp only;omega,trivial⟩
  ·exact ⟨by simp only;omega,fun v hv => (pug v hv).1 _⟩
 ·unfold limit;omega
 ·intro p hp
  have hsm : ∀ q ∈ [(0,AObj.cells [.slice (some ⟨2 + e,0,none⟩) (n + k) (2 * (n + k) + 1)] 0),(1,AObj.dead),(2 + e,AObj.cells (us ++ g) 1)],q.1 < limit:=by
   intro q hq
   simp only [List.mem_cons,List.not_mem_nil,or_false] at hq
   unfold limit
   rcases hq with rfl | rfl | rfl <;> simp only <;> omega
  simp only [kX,List.mem_cons,List.not_mem_nil,or_false] at hp
  rw [Hp.get,mkHp,mkT_get _ _ hsm]
  rcases hp with rfl | rfl <;> simp [look]
 ·intro j o hj
  have hsm : ∀ q ∈ [(0,AObj.cells [.slice (some ⟨2 + e,0,none⟩) (n + k) (2 * (n + k) + 1)] 0),(1,AObj.dead),(2 + e,AObj.cells (us ++ g) 1)],q.1 < limit:=by
   intro q hq
   simp only [List.mem_cons,List.not_mem_nil,or_false] at hq
   unfold limit
   rcases hq with rfl | rfl | rfl <;> simp only <;> omega
  match j,hj with
  | 0,hj =>
   simp [kX] at hj
   subst hj
   change (mkHp (2 + e + 1) _).get (2 + e) = _
   rw [Hp.get,mkHp,mkT_get _ _ hsm]
   have e0 : ¬ (2 + e = 0):=by omega
   have e1 : ¬ (2 + e = 1):=by omega
   simp [look,e0,e1]
  | j + 1,hj => simp [kX] at hj
theorem kW_ok {f : Nat} {xs : List Value} {n : Nat} {us g : List Value} {s : Sm} {fuel : Nat} {orc : List Ans} {os0 : List (Nat × AObj)} {row : List Value} {n2 c2 n1 k : Nat} (r : Nat) (hs : ∀ pr w0,GT pr w0 → SmOk Tryz.prog E1 pr w0 s)
  (h : RanC (runO Tryz.prog E1 s noRun fuel f (.pointer (some ⟨0,0,none⟩) :: xs) (mkHp 2 (oWr n us)) orc True) (.returned (.tuple #[])) os0 n1) (h0 : (0,.cells [.slice (some ⟨r,0,none⟩) n2 c2] 0) ∈ os0) (h1 : (1,.dead) ∈ os0) (h2 : (r,.cells row 1) ∈ os0) (hr : 2 ≤ r)
  (ha : PlainC xs) (hu : us.all isB = true) (hg : g.all isB = true) (hrow : row = us ++ g) (hn2 : n2 = n + k) (hc2 : c2 = 2 * (n + k) + 1) : ConLG GT Tryz.prog f (kW xs n us g k) :=
 kX_ok (xs:=fun _ => xs) (ex:=fun _ => []) (e:=0) r hs h h0 h1 h2 hr ⟨fun v hv => (ha v hv).1 _,fun σ => (ha.map σ).symm,fun σ => rfl,fun p hp => by simp at hp,by decide⟩ hu hg hrow hn2 hc2
def b1 (v : Int) : List Value:=[.int .u8 (IntKind.wrap IntKind.u8 (Int.fdiv (IntKind.wrap IntKind.u64 v) 1))]
def b4 (v : Int) : List Value:=[.int .u8 (IntKind.wrap IntKind.u8 (Int.fdiv (IntKind.wrap IntKind.u64 v) 16777216)),.int .u8 (IntKind.wrap IntKind.u8 (Int.fdiv (IntKind.wrap IntKind.u64 v) 65536)),.int .u8 (IntKind.wrap IntKind.u8 (Int.fdiv (IntKind.wrap IntKind.u64 v) 256)),.int .u8 (IntKind.wrap IntKind.u8 (Int.fdiv (IntKind.wrap IntKind.u64 v) 1))]
def b8 (v : Int) : List Value:=.int .u8 (IntKind.wrap IntKind.u8 (Int.fdiv (IntKind.wrap IntKind.u64 v) 72057594037927936)) :: .int .u8 (IntKind.wrap IntKind.u8 (Int.fdiv (IntKind.wrap IntKind.u64 v) 281474976710656)) :: .int .u8 (IntKind.wrap IntKind.u8 (Int.fdiv (IntKind.wrap IntKind.u64 v) 1099511627776)) :: .int .u8 (IntKind.wrap IntKind.u8 (Int.fdiv (IntKind.wrap IntKind.u64 v) 4294967296)) :: b4 v
def wS (g : List Value → Option (List Value × Nat)) : SumO:=fnL fun args μ => match args with
 | .pointer (some p) :: xs => match μ.get p.block,g xs with
  | some (.cells [.slice (some q) n _] _),some (b,k) => match μ.get q.block with
   | some (.cells us _) => some ([p.block,q.block],kW xs n us b k,us.length = n∧us.all isB = true∧n + k ≤ 70368744177664)
   | _ => none
  | _,_ => none
 | _ => none
def gw1 : List Value → Option (List Value × Nat)
 | [.int .i8 v] => some (b1 v,1)
 | _ => none
def gw4u : List Value → Option (List Value × Nat)
 | [.int .u32 v] => some (b4 v,4)
 | _ => none
def gw4 : List Value → Option (List Value × Nat)
 | [.int .i32 v] => some (b4 v,4)
 | _ => none
def gw8 : List Value → Option (List Value × Nat)
 | [.int .i64 v] => some (b8 v,8)
 | _ => none
theorem plain_int (k : IntKind) (v : Int) : PlainC [.int k v]:=by
 intro x hx
 simp at hx
 subst hx
 exact ⟨fun N => by simp,fun σ => by simp [upV]⟩
theorem con29 {n : Nat} {v : Int} {us : List Value} (hl : us.length = n) (hu : us.all isB = true) (hb : n ≤ 70368744177664) : ConLG GT Tryz.prog 14 (kW [.int .i8 v] n us (b1 v) 1):=by
 subst hl
 exact kW_ok 3 (fun pr w0 _ => sm0_ok pr w0) (w29_came us.length v us (by simp [capOf_open,capOpen_open];omega)) (List.mem_cons_self ..) (List.mem_of_getElem? (i:=1) rfl) (List.mem_of_getElem? (i:=3) rfl) (by omega) (plain_int _ _) hu rfl (by simp [List.take_of_length_le,b1,b4,b8]) rfl rfl
theorem con34 {n : Nat} {v : Int} {us : List Value} (hl : us.length = n) (hu : us.all isB = true) (hb : n ≤ 70368744177664) : ConLG GT Tryz.prog 19 (kW [.int .u32 v] n us (b4 v) 4):=by
 subst hl
 exact kW_ok 9 (fun pr w0 _ => sm0_ok pr w0) (w34_came us.length v us (by simp [capOf_open,capOpen_open];omega) (by simp [capOf_open,capOpen_open];omega) (by simp [capOf_open,capOpen_open];omega) (by simp [capOf_open,capOpen_open];omega)) (List.mem_cons_self ..) (List.mem_of_getElem? (i:=1) rfl) (List.mem_of_getElem? (i:=9) rfl) (by omega) (plain_int _ _) hu rfl (by simp [List.take_of_length_le,b1,b4,b8]) rfl rfl
theorem con35 {n : Nat} {v : Int} {us : List Value} (hl : us.length = n) (hu : us.all isB = true) (hb : n ≤ 70368744177664) : ConLG GT Tryz.prog 20 (kW [.int .i32 v] n us (b4 v) 4):=by
 subst hl
 exact kW_ok 9 (fun pr w0 _ => sm0_ok pr w0) (w35_came us.length v us (by simp [capOf_open,capOpen_open];omega) (by simp [capOf_open,capOpen_open];omega) (by simp [capOf_open,capOpen_open];omega) (by simp [capOf_open,capOpen_open];omega)) (List.mem_cons_self ..) (List.mem_of_getElem? (i:=1) rfl) (List.mem_of_getElem? (i:=9) rfl) (by omega) (plain_int _ _) hu rfl (by simp [List.take_of_length_le,b1,b4,b8]) rfl rfl
theorem con36 {n : Nat} {v : Int} {us : List Value} (hl : us.length = n) (hu : us.all isB = true) (hb : n ≤ 70368744177664) : ConLG GT Tryz.prog 21 (kW [.int .i64 v] n us (b8 v) 8):=by
 subst hl
 exact kW_ok 17 (fun pr w0 _ => sm0_ok pr w0) (w36_came us.length v us (by simp [capOf_open,capOpen_open];omega) (by simp [capOf_open,capOpen_open];omega) (by simp [capOf_open,capOpen_open];omega) (by simp [capOf_open,capOpen_open];omega) (by simp [capOf_open,capOpen_open];omega) (by simp [capOf_open,capOpen_open];omega) (by simp [capOf_open,capOpen_open];omega) (by simp [capOf_open,capOpen_open];omega)) (List.mem_cons_self ..) (List.mem_of_getElem? (i:=1) rfl) (List.mem_of_getElem? (i:=17) rfl) (by omega) (plain_int _ _) hu rfl (by simp [List.take_of_length_le,b1,b4,b8]) rfl rfl
theorem wS_ok {pr : Prot} {w0 : World} (hG : GT pr w0) {f : Nat} {g : List Value → Option (List Value × Nat)} (h : ∀ xs b k us n,g xs = some (b,k) → us.length = n → us.all isB = true → n + k ≤ 70368744177664 → ConLG GT Tryz.prog f (kW xs n us b k)) : SumOk Tryz.prog pr w0 0 f (wS g):=by
 refine fnL_ok gt_stands hG fun args μ τ c p hg hp => ?_
 split at hg
 ·split at hg
  ·split at hg
   ·simp only [Option.some.injEq,Prod.mk.injEq] at hg
    obtain ⟨_,rfl,rfl⟩:=hg
    rename_i hgx _ _ _ _ _
    exact h _ _ _ _ _ (by assumption) hp.1 hp.2.1 hp.2.2
   ·cases hg
  ·cases hg
 ·cases hg
theorem s29_ok {pr : Prot} {w0 : World} (hG : GT pr w0) : SumOk Tryz.prog pr w0 0 14 (wS gw1):=wS_ok hG fun xs b k us n hg h1 h2 h3 => by
 unfold gw1 at hg
 split at hg
 ·cases hg;exact con29 h1 h2 (by omega)
 ·cases hg
theorem s34_ok {pr : Prot} {w0 : World} (hG : GT pr w0) : SumOk Tryz.prog pr w0 0 19 (wS gw4u):=wS_ok hG fun xs b k us n hg h1 h2 h3 => by
 unfold gw4u at hg
 split at hg
 ·cases hg;exact con34 h1 h2 (by omega)
 ·cases hg
theorem s35_ok {pr : Prot} {w0 : World} (hG : GT pr w0) : SumOk Tryz.prog pr w0 0 20 (wS gw4):=wS_ok hG fun xs b k us n hg h1 h2 h3 => by
 unfold gw4 at hg
 split at hg
 ·cases hg;exact con35 h1 h2 (by omega)
 ·cases hg
theorem s36_ok {pr : Prot} {w0 : World} (hG : GT pr w0) : SumOk Tryz.prog pr w0 0 21 (wS gw8):=wS_ok hG fun xs b k us n hg h1 h2 h3 => by
 unfold gw8 at hg
 split at hg
 ·cases hg;exact con36 h1 h2 (by omega)
 ·cases hg
end Go.Abs
end
section
namespace Go.Abs
open Go.Proofs
set_option maxRecDepth 100000
def sW35 : Sm:=withS sm0 20 (wS gw4)
def oWx (n m : Nat) (us vs : List Value) : List (Nat × AObj):=[(0,.cells [.slice (some ⟨1,0,none⟩) n (2 * n + 1)] 0),(1,.cells us 1),(2,.rov vs),(3,.word m 2)]
theorem w30a_came (n : Nat) (s : ByteArray) (us : List Value) (h0 : List.length us = n) (h1 : List.all us isB = true) (h2 : Nat.le (n + 4) 70368744177664) (h3 : 0 + (n + 4) * 1 ≤ List.length (us ++ b4 (IntKind.wrap .i32 (↑(ByteArray.size s) : Int)))) (h4 : capOf (2 * (n + 4) + 1) < n + 4 + ByteArray.size s) (h5 : (n + 4 + ByteArray.size s) * 1 ≤ 140737488355328) (h6 : n + 4 + ByteArray.size s ≤ 4611686018427387904) (h7 : List.length (List.take ((n + 4) * 1) (List.drop 0 (us ++ b4 (IntKind.wrap .i32 (↑(ByteArray.size s) : Int))))) = (n + 4) * 1) (h8 : List.length (intList (List.take (ByteArray.size s) s.data.toList)) = ByteArray.size s * 1) (h9 : List.all (intList (List.take (ByteArray.size s) s.data.toList)) one = true) (h10 : capOpen (2 * (n + 4) + 1) = true) (h11 : 0 + capOf (2 * (n + 4) + 1) * 1 = List.length (us ++ b4 (IntKind.wrap .i32 (↑(ByteArray.size s) : Int)))) :
  RanC (runO Tryz.prog E1 (sW35) noRun 100 15 [Value.pointer (some ⟨0,0,none⟩),Value.string s] (mkHp 2 (oWr n us)) [.skip 14,.grow true] True) (.returned (Value.tuple (Array.mk []))) [(0,AObj.cells [Value.slice (some ⟨3,0,none⟩) (n + 4 + ByteArray.size s) (2 * (n + 4 + ByteArray.size s) + 1)] 0),(1,AObj.dead),(2,AObj.dead),(3,AObj.cells (List.take ((n + 4) * 1) (List.drop 0 (us ++ b4 (IntKind.wrap .i32 (↑(ByteArray.size s) : Int)))) ++ intList (List.take (ByteArray.size s) s.data.toList)) 1)] 4 :=
 cameCF_of (O:=let x0:=intList (List.take (ByteArray.size s) s.data.toList);(True∧(List.length us = n∧List.all us isB = true∧Nat.le (n + 4) 70368744177664)∧([Value.pointer (some (Addr.mk 0 0 none)),Value.int .i32 (IntKind.wrap .i32 (↑(ByteArray.size s) : Int))] = [Value.pointer (some (Addr.mk 0 0 none)),Value.int .i32 (IntKind.wrap .i32 (↑(ByteArray.size s) : Int))]∧true = true∧true = true∧true = true)∧([Value.slice (some (Addr.mk 1 0 none)) n (2 * n + 1)] = [Value.slice (some (Addr.mk 1 0 none)) n (2 * n + 1)]∧0 = 0)∧(us = us∧1 = 1)∧True)∧True∧0 + (n + 4) * 1 ≤ List.length (us ++ b4 (IntKind.wrap .i32 (↑(ByteArray.size s) : Int)))∧capOf (2 * (n + 4) + 1) < n + 4 + ByteArray.size s∧(n + 4 + ByteArray.size s) * 1 ≤ 140737488355328∧n + 4 + ByteArray.size s ≤ 4611686018427387904∧List.length (List.take ((n + 4) * 1) (List.drop 0 (us ++ b4 (IntKind.wrap .i32 (↑(ByteArray.size s) : Int))))) = (n + 4) * 1∧List.length x0 = ByteArray.size s * 1∧List.all x0 one = true∧capOpen (2 * (n + 4) + 1) = true∧1 = 1∧0 + capOf (2 * (n + 4) + 1) * 1 = List.length (us ++ b4 (IntKind.wrap .i32 (↑(ByteArray.size s) : Int)))) (by kernel_rfl) ⟨⟨trivial,⟨⟨h0,⟨h1,h2⟩⟩,⟨⟨rfl,⟨rfl,⟨rfl,rfl⟩⟩⟩,⟨⟨rfl,rfl⟩,⟨⟨rfl,rfl⟩,trivial⟩⟩⟩⟩⟩,⟨trivial,⟨h3,⟨h4,⟨h5,⟨h6,⟨h7,⟨h8,⟨h9,⟨h10,⟨rfl,h11⟩⟩⟩⟩⟩⟩⟩⟩⟩⟩⟩
theorem w30b_came (n : Nat) (s : ByteArray) (us : List Value) (h0 : List.length us = n) (h1 : List.all us isB = true) (h2 : Nat.le (n + 4) 70368744177664) (h3 : ByteArray.size s = 0) (h4 : n + 4 + ByteArray.size s ≤ capOf (2 * (n + 4) + 1)) :
  RanC (runO Tryz.prog E1 (sW35) noRun 100 15 [Value.pointer (some ⟨0,0,none⟩),Value.string s] (mkHp 2 (oWr n us)) [.skip 14,.same] True) (.returned (Value.tuple (Array.mk []))) [(0,AObj.cells [Value.slice (some ⟨2,0,none⟩) (n + 4) (2 * (n + 4) + 1)] 0),(1,AObj.dead),(2,AObj.cells (us ++ b4 (IntKind.wrap .i32 (↑(ByteArray.size s) : Int))) 1)] 3 :=
 cameCF_of (O:=(True∧(List.length us = n∧List.all us isB = true∧Nat.le (n + 4) 70368744177664)∧([Value.pointer (some (Addr.mk 0 0 none)),Value.int .i32 (IntKind.wrap .i32 (↑(ByteArray.size s) : Int))] = [Value.pointer (some (Addr.mk 0 0 none)),Value.int .i32 (IntKind.wrap .i32 (↑(ByteArray.size s) : Int))]∧true = true∧true = true∧true = true)∧([Value.slice (some (Addr.mk 1 0 none)) n (2 * n + 1)] = [Value.slice (some (Addr.mk 1 0 none)) n (2 * n + 1)]∧0 = 0)∧(us = us∧1 = 1)∧True)∧True∧ByteArray.size s = 0∧n + 4 + ByteArray.size s ≤ capOf (2 * (n + 4) + 1)) (by kernel_rfl) ⟨⟨trivial,⟨⟨h0,⟨h1,h2⟩⟩,⟨⟨rfl,⟨rfl,⟨rfl,rfl⟩⟩⟩,⟨⟨rfl,rfl⟩,⟨⟨rfl,rfl⟩,trivial⟩⟩⟩⟩⟩,⟨trivial,⟨h3,h4⟩⟩⟩
theorem w31a_came (n : Nat) (m : Nat) (us : List Value) (vs : List Value) (h0 : List.length us = n) (h1 : List.all us isB = true) (h2 : Nat.le (n + 4) 70368744177664) (h3 : 0 + m * 1 ≤ List.length vs) (h4 : m ≤ m) (h5 : 0 + (n + 4) * 1 ≤ List.length (us ++ b4 (IntKind.wrap .i32 (↑m : Int)))) (h6 : capOf (2 * (n + 4) + 1) < n + 4 + m) (h7 : (n + 4 + m) * 1 ≤ 140737488355328) (h8 : n + 4 + m ≤ 4611686018427387904) (h9 : List.length (List.take ((n + 4) * 1) (List.drop 0 (us ++ b4 (IntKind.wrap .i32 (↑m : Int))))) = (n + 4) * 1) (h10 : List.length (List.take (m * 1) (List.drop 0 vs)) = m * 1) (h11 : List.all (List.take (m * 1) (List.drop 0 vs)) one = true) (h12 : capOpen (2 * (n + 4) + 1) = true) (h13 : 0 + capOf (2 * (n + 4) + 1) * 1 = List.length (us ++ b4 (IntKind.wrap .i32 (↑m : Int)))) :
  RanC (runO Tryz.prog E1 (sW35) noRun 100 16 [Value.pointer (some ⟨0,0,none⟩),Value.chan (some 3)] (mkHp 4 (oWx n m us vs)) [.skip 20,.grow true] True) (.returned (Value.tuple (Array.mk []))) [(0,AObj.cells [Value.slice (some ⟨5,0,none⟩) (n + 4 + m) (2 * (n + 4 + m) + 1)] 0),(1,AObj.dead),(2,AObj.rov vs),(3,AObj.word m 2),(4,AObj.dead),(5,AObj.cells (List.take ((n + 4) * 1) (List.drop 0 (us ++ b4 (IntKind.wrap .i32 (↑m : Int)))) ++ List.take (m * 1) (List.drop 0 vs)) 1)] 6 :=
 cameCF_of (O:=let x0:=List.take (m * 1) (List.drop 0 vs);(True∧(List.length us = n∧List.all us isB = true∧Nat.le (n + 4) 70368744177664)∧([Value.pointer (some (Addr.mk 0 0 none)),Value.int .i32 (IntKind.wrap .i32 (↑m : Int))] = [Value.pointer (some (Addr.mk 0 0 none)),Value.int .i32 (IntKind.wrap .i32 (↑m : Int))]∧true = true∧true = true∧true = true)∧([Value.slice (some (Addr.mk 1 0 none)) n (2 * n + 1)] = [Value.slice (some (Addr.mk 1 0 none)) n (2 * n + 1)]∧0 = 0)∧(us = us∧1 = 1)∧True)∧(0 + m * 1 ≤ List.length vs∧m ≤ m)∧0 + (n + 4) * 1 ≤ List.length (us ++ b4 (IntKind.wrap .i32 (↑m : Int)))∧capOf (2 * (n + 4) + 1) < n + 4 + m∧(n + 4 + m) * 1 ≤ 140737488355328∧n + 4 + m ≤ 4611686018427387904∧List.length (List.take ((n + 4) * 1) (List.drop 0 (us ++ b4 (IntKind.wrap .i32 (↑m : Int))))) = (n + 4) * 1∧List.length x0 = m * 1∧List.all x0 one = true∧capOpen (2 * (n + 4) + 1) = true∧1 = 1∧0 + capOf (2 * (n + 4) + 1) * 1 = List.length (us ++ b4 (IntKind.wrap .i32 (↑m : Int)))) (by kernel_rfl) ⟨⟨trivial,⟨⟨h0,⟨h1,h2⟩⟩,⟨⟨rfl,⟨rfl,⟨rfl,rfl⟩⟩⟩,⟨⟨rfl,rfl⟩,⟨⟨rfl,rfl⟩,trivial⟩⟩⟩⟩⟩,⟨⟨h3,h4⟩,⟨h5,⟨h6,⟨h7,⟨h8,⟨h9,⟨h10,⟨h11,⟨h12,⟨rfl,h13⟩⟩⟩⟩⟩⟩⟩⟩⟩⟩⟩
theorem w31b_came (n : Nat) (m : Nat) (us : List Value) (vs : List Value) (h0 : List.length us = n) (h1 : List.all us isB = true) (h2 : Nat.le (n + 4) 70368744177664) (h3 : (0 + m * 1 ≤ List.length vs∧m ≤ m)∧m = 0∧n + 4 + m ≤ capOf (2 * (n + 4) + 1)) :
  RanC (runO Tryz.prog E1 (sW35) noRun 100 16 [Value.pointer (some ⟨0,0,none⟩),Value.chan (some 3)] (mkHp 4 (oWx n m us vs)) [.skip 20,.same] True) (.returned (Value.tuple (Array.mk []))) [(0,AObj.cells [Value.slice (some ⟨4,0,none⟩) (n + 4) (2 * (n + 4) + 1)] 0),(1,AObj.dead),(2,AObj.rov vs),(3,AObj.word m 2),(4,AObj.cells (us ++ b4 (IntKind.wrap .i32 (↑m : Int))) 1)] 5 :=
 cameCF_of (O:=(True∧(List.length us = n∧List.all us isB = true∧Nat.le (n + 4) 70368744177664)∧([Value.pointer (some (Addr.mk 0 0 none)),Value.int .i32 (IntKind.wrap .i32 (↑m : Int))] = [Value.pointer (some (Addr.mk 0 0 none)),Value.int .i32 (IntKind.wrap .i32 (↑m : Int))]∧true = true∧true = true∧true = true)∧([Value.slice (some (Addr.mk 1 0 none)) n (2 * n + 1)] = [Value.slice (some (Addr.mk 1 0 none)) n (2 * n + 1)]∧0 = 0)∧(us = us∧1 = 1)∧True)∧(0 + m * 1 ≤ List.length vs∧m ≤ m)∧m = 0∧n + 4 + m ≤ capOf (2 * (n + 4) + 1)) (by kernel_rfl) ⟨⟨trivial,⟨⟨h0,⟨h1,h2⟩⟩,⟨⟨rfl,⟨rfl,⟨rfl,rfl⟩⟩⟩,⟨⟨rfl,rfl⟩,⟨⟨rfl,rfl⟩,trivial⟩⟩⟩⟩⟩,h3⟩
theorem b4_len (v : Int) : (b4 v).length = 4:=rfl
theorem intList_isB (l : List UInt8) : (intList l).all isB = true:=List.all_eq_true.2 fun v hv => by
 obtain ⟨b,_,rfl⟩:=List.mem_map.1 (by simpa [intList] using hv)
 rfl
theorem isB_one {l : List Value} (h : l.all isB = true) : l.all one = true:=List.all_eq_true.2 fun v hv => by
 have:=List.all_eq_true.1 h v hv
 unfold isB at this
 split at this
 ·rfl
 ·cases this
theorem size_len (s : ByteArray) : s.data.toList.length = s.size:=rfl
theorem intList_len (l : List UInt8) : (intList l).length = l.length:=by simp [intList]
theorem take_size (s : ByteArray) : List.take s.size s.data.toList = s.data.toList:=List.take_of_length_le (Nat.le_refl _)
def gT : List Value → Option (List Value × Nat)
 | [.string s] => some (b4 (IntKind.wrap IntKind.i32 ((s.size : Nat) : Int)) ++ intList s.data.toList,4 + s.size)
 | _ => none
theorem con30 {n : Nat} {s : ByteArray} {us : List Value} (hl : us.length = n) (hu : us.all isB = true) (hb : n + (4 + s.size) ≤ 70368744177664) : ConLG GT Tryz.prog 15 (kW [.string s] n us (b4 (IntKind.wrap IntKind.i32 ((s.size : Nat) : Int)) ++ intList s.data.toList) (4 + s.size)):=by
 subst hl
 have hp : PlainC [Value.string s]:=by
  intro x hx
  simp at hx
  subst hx
  exact ⟨fun N => by simp,fun σ => by simp [upV]⟩
 have hg : (b4 (IntKind.wrap IntKind.i32 ((s.size : Nat) : Int)) ++ intList s.data.toList).all isB = true:=by
  rw [List.all_append,intList_isB];rfl
 by_cases h0 : s.size = 0
 ·have hd : s.data.toList = []:=List.eq_nil_of_length_eq_zero h0
  exact kW_ok 2 (fun pr w0 hG => withS_ok (sm0_ok pr w0) (s35_ok hG)) (w30b_came us.length s us rfl hu (by show us.length + 4 ≤ 70368744177664;omega) h0 (by rw [capOf_open];omega)) (List.mem_cons_self ..) (List.mem_of_getElem? (i:=1) rfl) (List.mem_of_getElem? (i:=2) rfl) (by omega) hp hu hg (by simp [hd,intList]) (by omega) (by omega)
 ·exact kW_ok 3 (fun pr w0 hG => withS_ok (sm0_ok pr w0) (s35_ok hG)) (w30a_came us.length s us rfl hu (by show us.length + 4 ≤ 70368744177664;omega) (by simp [b4_len]) (by rw [capOf_open];omega) (by omega) (by omega) (by simp [b4_len]) (by rw [take_size,intList_len,size_len];omega) (isB_one (by rw [take_size];exact intList_isB _)) (capOpen_open _) (by simp [capOf_open,b4_len])) (List.mem_cons_self ..) (List.mem_of_getElem? (i:=1) rfl) (List.mem_of_getElem? (i:=3) rfl) (by omega) hp hu hg (by rw [take_size,Nat.mul_one,List.drop_zero,List.take_of_length_le (by simp [b4_len])];simp) (by omega) (by omega)
theorem s30_ok {pr : Prot} {w0 : World} (hG : GT pr w0) : SumOk Tryz.prog pr w0 0 15 (wS gT):=wS_ok hG fun xs b k us n hg h1 h2 h3 => by
 unfold gT at hg
 split at hg
 ·cases hg;exact con30 h1 h2 h3
 ·cases hg
def gB (vs : List Value) (m : Nat) : List Value:=b4 (IntKind.wrap IntKind.i32 ((m : Nat) : Int)) ++ vs
theorem exs31 (vs : List Value) (m : Nat) (tl : List Value) (h : PlainC tl) : Exs (fun σ => .chan (some (σ 3)) :: tl) (fun σ => [(2,.rov vs),(3,.word m (σ 2))]) 2:=by
 refine ⟨?_,fun σ => by simp [upV,h.map],fun σ => by simp [upO],?_,by decide⟩
 ·intro v hv
  rcases List.mem_cons.1 hv with rfl | hv
  ·simp [Bd]
  ·exact (h v hv).1 _
 ·intro p hp
  simp only [List.mem_cons,List.not_mem_nil,or_false] at hp
  rcases hp with rfl | rfl <;> simp [BdO,AObj.live]
theorem con31 {n m : Nat} {us vs : List Value} (hl : us.length = n) (hu : us.all isB = true) (hv : vs.all isB = true) (hm : vs.length = m) (hb : n + (gB vs m).length ≤ 70368744177664) : ConLG GT Tryz.prog 16 (kX (fun σ => [.chan (some (σ 3))]) (fun σ => [(2,.rov vs),(3,.word m (σ 2))]) 2 n us (gB vs m) (gB vs m).length):=by
 subst hl hm
 have hgl : (gB vs vs.length).length = 4 + vs.length:=by simp [gB,b4_len]
 rw [hgl] at hb
 have hg : (gB vs vs.length).all isB = true:=by
  unfold gB
  rw [List.all_append,hv];rfl
 rw [hgl]
 by_cases h0 : vs.length = 0
 ·have hd : vs = []:=List.eq_nil_of_length_eq_zero h0
  exact kX_ok 4 (fun pr w0 hG => withS_ok (sm0_ok pr w0) (s35_ok hG)) (w31b_came us.length vs.length us vs rfl hu (by show us.length + 4 ≤ 70368744177664;omega) ⟨⟨by omega,Nat.le_refl _⟩,h0,by rw [capOf_open];omega⟩) (List.mem_cons_self ..) (List.mem_of_getElem? (i:=1) rfl) (List.mem_of_getElem? (i:=4) rfl) (by omega) (exs31 _ _ [] (by intro v hv;simp at hv)) hu hg (by simp [gB,hd]) (by omega) (by omega)
 ·exact kX_ok 5 (fun pr w0 hG => withS_ok (sm0_ok pr w0) (s35_ok hG)) (w31a_came us.length vs.length us vs rfl hu (by show us.length + 4 ≤ 70368744177664;omega) (by omega) (Nat.le_refl _) (by simp [b4_len]) (by rw [capOf_open];omega) (by omega) (by omega) (by simp [b4_len]) (by simp) (isB_one (by simpa using hv)) (capOpen_open _) (by simp [capOf_open,b4_len])) (List.mem_cons_self ..) (List.mem_of_getElem? (i:=1) rfl) (List.mem_of_getElem? (i:=5) rfl) (by omega) (exs31 _ _ [] (by intro v hv;simp at hv)) hu hg (by simp [gB,List.take_of_length_le,b4_len]) (by omega) (by omega)
end Go.Abs
end
section
namespace Go.Abs
open Go.Proofs
set_option maxRecDepth 100000
def sW3 : Sm:=withS (withS sm0 14 (wS gw1)) 15 (wS gT)
def t32 (m k : Nat) : List (Nat × Value):=[(0,.pointer (some ⟨0,0,none⟩)),(2,.func (.func 18) #[] #[]),(17,.chan (some 3)),(18,.int .i64 m),(19,.int .i64 k)]
def o32 (R n : Nat) (us vs : List Value) (m : Nat) : List (Nat × AObj):=[(0,.cells [.slice (some ⟨R,0,none⟩) n (2 * n + 1)] 0),(1,.dead),(2,.rov vs),(3,.word m 2),(R,.cells us 1)]
theorem e32a_came (n : Nat) (m : Nat) (k : Nat) (us : List Value) (vs : List Value) (a : Int) (s : ByteArray) (d : ByteArray) (h0 : decide ((↑k : Int) < (↑m : Int)) = true) (h1 : 0 ≤ (↑k : Int)∧(↑k : Int) < (↑m : Int)) (h2 : List.take 3 (List.drop (0 + Int.toNat (↑k : Int) * 3) vs) = [Value.int .i8 a,Value.string s,Value.string d]) (h3 : List.length us = n) (h4 : List.all us isB = true) (h5 : Nat.le (n + 1) 70368744177664) (h6 : List.length (us ++ b1 a) = n + 1) (h7 : List.all (us ++ b1 a) isB = true) (h8 : Nat.le (n + 1 + (4 + ByteArray.size s)) 70368744177664) (h9 : List.length (us ++ b1 a ++ (b4 (IntKind.wrap .i32 (↑(ByteArray.size s) : Int)) ++ intList s.data.toList)) = n + 1 + (4 + ByteArray.size s)) (h10 : List.all (us ++ b1 a ++ (b4 (IntKind.wrap .i32 (↑(ByteArray.size s) : Int)) ++ intList s.data.toList)) isB = true) (h11 : Nat.le (n + 1 + (4 + ByteArray.size s) + (4 + ByteArray.size d)) 70368744177664) :
  Ran (codeO Tryz.prog E1 (sW3) noRun 100 17 [0,0,1,1,1,1] (codeAt Tryz.f17 [0,0,1,1,1,1]) (mkFr 28 (t32 m k)) (mkHp 5 (o32 4 n us vs m)) [.skip 1,.b true,.sym,.l [Value.int .i8 a,Value.string s,Value.string d]] True) (Exit.normal) 28 [(0,Value.pointer (some ⟨0,0,none⟩)),(2,Value.func (Fn.func 18) (Array.mk []) (Array.mk [])),(17,Value.chan (some 3)),(18,Value.int .i64 (↑m : Int)),(19,Value.int .i64 (IntKind.wrap .i64 ((↑k : Int) + 1)))] [(0,AObj.cells [Value.slice (some ⟨9,0,none⟩) (n + 1 + (4 + ByteArray.size s) + (4 + ByteArray.size d)) (2 * (n + 1 + (4 + ByteArray.size s) + (4 + ByteArray.size d)) + 1)] 0),(1,AObj.dead),(2,AObj.rov vs),(3,AObj.word m 2),(4,AObj.dead),(5,AObj.cells [Value.int .i8 a,Value.string s,Value.string d] 0),(6,AObj.cells [Value.int .i8 a,Value.string s,Value.string d] 0),(7,AObj.dead),(8,AObj.dead),(9,AObj.cells (us ++ b1 a ++ (b4 (IntKind.wrap .i32 (↑(ByteArray.size s) : Int)) ++ intList s.data.toList) ++ (b4 (IntKind.wrap .i32 (↑(ByteArray.size d) : Int)) ++ intList d.data.toList)) 1)] 10 :=
 cameF_of (O:=let x0:=n + 1 + (4 + ByteArray.size s);(((((True∧decide ((↑k : Int) < (↑m : Int)) = true)∧0 ≤ (↑k : Int)∧(↑k : Int) < (↑m : Int))∧List.take 3 (List.drop (0 + Int.toNat (↑k : Int) * 3) vs) = [Value.int .i8 a,Value.string s,Value.string d])∧(List.length us = n∧List.all us isB = true∧Nat.le (n + 1) 70368744177664)∧([Value.pointer (some (Addr.mk 0 0 none)),Value.int .i8 a] = [Value.pointer (some (Addr.mk 0 0 none)),Value.int .i8 a]∧true = true∧true = true∧true = true)∧([Value.slice (some (Addr.mk 4 0 none)) n (2 * n + 1)] = [Value.slice (some (Addr.mk 4 0 none)) n (2 * n + 1)]∧0 = 0)∧(us = us∧1 = 1)∧True)∧(List.length (us ++ b1 a) = n + 1∧List.all (us ++ b1 a) isB = true∧Nat.le x0 70368744177664)∧([Value.pointer (some (Addr.mk 0 0 none)),Value.string s] = [Value.pointer (some (Addr.mk 0 0 none)),Value.string s]∧true = true∧true = true∧true = true)∧([Value.slice (some (Addr.mk 7 0 none)) (n + 1) (2 * (n + 1) + 1)] = [Value.slice (some (Addr.mk 7 0 none)) (n + 1) (2 * (n + 1) + 1)]∧0 = 0)∧(us ++ b1 a = us ++ b1 a∧1 = 1)∧True)∧(List.length (us ++ b1 a ++ (b4 (IntKind.wrap .i32 (↑(ByteArray.size s) : Int)) ++ intList s.data.toList)) = n + 1 + (4 + ByteArray.size s)∧List.all (us ++ b1 a ++ (b4 (IntKind.wrap .i32 (↑(ByteArray.size s) : Int)) ++ intList s.data.toList)) isB = true∧Nat.le (n + 1 + (4 + ByteArray.size s) + (4 + ByteArray.size d)) 70368744177664)∧([Value.pointer (some (Addr.mk 0 0 none)),Value.string d] = [Value.pointer (some (Addr.mk 0 0 none)),Value.string d]∧true = true∧true = true∧true = true)∧([Value.slice (some (Addr.mk 8 0 none)) x0 (2 * x0 + 1)] = [Value.slice (some (Addr.mk 8 0 none)) x0 (2 * x0 + 1)]∧0 = 0)∧(us ++ b1 a ++ (b4 (IntKind.wrap .i32 (↑(ByteArray.size s) : Int)) ++ intList s.data.toList) = us ++ b1 a ++ (b4 (IntKind.wrap .i32 (↑(ByteArray.size s) : Int)) ++ intList s.data.toList)∧1 = 1)∧True) (by kernel_rfl) ⟨⟨⟨⟨⟨⟨trivial,h0⟩,h1⟩,h2⟩,⟨⟨h3,⟨h4,h5⟩⟩,⟨⟨rfl,⟨rfl,⟨rfl,rfl⟩⟩⟩,⟨⟨rfl,rfl⟩,⟨⟨rfl,rfl⟩,trivial⟩⟩⟩⟩⟩,⟨⟨h6,⟨h7,h8⟩⟩,⟨⟨rfl,⟨rfl,⟨rfl,rfl⟩⟩⟩,⟨⟨rfl,rfl⟩,⟨⟨rfl,rfl⟩,trivial⟩⟩⟩⟩⟩,⟨⟨h9,⟨h10,h11⟩⟩,⟨⟨rfl,⟨rfl,⟨rfl,rfl⟩⟩⟩,⟨⟨rfl,rfl⟩,⟨⟨rfl,rfl⟩,trivial⟩⟩⟩⟩⟩
theorem e32b_came (n : Nat) (m : Nat) (k : Nat) (us : List Value) (vs : List Value) (a : Int) (s : ByteArray) (d : ByteArray) (h0 : decide ((↑k : Int) < (↑m : Int)) = true) (h1 : 0 ≤ (↑k : Int)∧(↑k : Int) < (↑m : Int)) (h2 : List.take 3 (List.drop (0 + Int.toNat (↑k : Int) * 3) vs) = [Value.int .i8 a,Value.string s,Value.string d]) (h3 : List.length us = n) (h4 : List.all us isB = true) (h5 : Nat.le (n + 1) 70368744177664) (h6 : List.length (us ++ b1 a) = n + 1) (h7 : List.all (us ++ b1 a) isB = true) (h8 : Nat.le (n + 1 + (4 + ByteArray.size s)) 70368744177664) (h9 : List.length (us ++ b1 a ++ (b4 (IntKind.wrap .i32 (↑(ByteArray.size s) : Int)) ++ intList s.data.toList)) = n + 1 + (4 + ByteArray.size s)) (h10 : List.all (us ++ b1 a ++ (b4 (IntKind.wrap .i32 (↑(ByteArray.size s) : Int)) ++ intList s.data.toList)) isB = true) (h11 : Nat.le (n + 1 + (4 + ByteArray.size s) + (4 + ByteArray.size d)) 70368744177664) :
  Ran (codeO Tryz.prog E1 (sW3) noRun 100 17 [0,0,1,1,1,1] (codeAt Tryz.f17 [0,0,1,1,1,1]) (mkFr 28 (t32 m k)) (mkHp 6 (o32 5 n us vs m)) [.skip 1,.b true,.sym,.l [Value.int .i8 a,Value.string s,Value.string d]] True) (Exit.normal) 28 [(0,Value.pointer (some ⟨0,0,none⟩)),(2,Value.func (Fn.func 18) (Array.mk []) (Array.mk [])),(17,Value.chan (some 3)),(18,Value.int .i64 (↑m : Int)),(19,Value.int .i64 (IntKind.wrap .i64 ((↑k : Int) + 1)))] [(0,AObj.cells [Value.slice (some ⟨10,0,none⟩) (n + 1 + (4 + ByteArray.size s) + (4 + ByteArray.size d)) (2 * (n + 1 + (4 + ByteArray.size s) + (4 + ByteArray.size d)) + 1)] 0),(1,AObj.dead),(2,AObj.rov vs),(3,AObj.word m 2),(5,AObj.dead),(6,AObj.cells [Value.int .i8 a,Value.string s,Value.string d] 0),(7,AObj.cells [Value.int .i8 a,Value.string s,Value.string d] 0),(8,AObj.dead),(9,AObj.dead),(10,AObj.cells (us ++ b1 a ++ (b4 (IntKind.wrap .i32 (↑(ByteArray.size s) : Int)) ++ intList s.data.toList) ++ (b4 (IntKind.wrap .i32 (↑(ByteArray.size d) : Int)) ++ intList d.data.toList)) 1)] 11 :=
 cameF_of (O:=let x0:=n + 1 + (4 + ByteArray.size s);(((((True∧decide ((↑k : Int) < (↑m : Int)) = true)∧0 ≤ (↑k : Int)∧(↑k : Int) < (↑m : Int))∧List.take 3 (List.drop (0 + Int.toNat (↑k : Int) * 3) vs) = [Value.int .i8 a,Value.string s,Value.string d])∧(List.length us = n∧List.all us isB = true∧Nat.le (n + 1) 70368744177664)∧([Value.pointer (some (Addr.mk 0 0 none)),Value.int .i8 a] = [Value.pointer (some (Addr.mk 0 0 none)),Value.int .i8 a]∧true = true∧true = true∧true = true)∧([Value.slice (some (Addr.mk 5 0 none)) n (2 * n + 1)] = [Value.slice (some (Addr.mk 5 0 none)) n (2 * n + 1)]∧0 = 0)∧(us = us∧1 = 1)∧True)∧(List.length (us ++ b1 a) = n + 1∧List.all (us ++ b1 a) isB = true∧Nat.le x0 70368744177664)∧([Value.pointer (some (Addr.mk 0 0 none)),Value.string s] = [Value.pointer (some (Addr.mk 0 0 none)),Value.string s]∧true = true∧true = true∧true = true)∧([Value.slice (some (Addr.mk 8 0 none)) (n + 1) (2 * (n + 1) + 1)] = [Value.slice (some (Addr.mk 8 0 none)) (n + 1) (2 * (n + 1) + 1)]∧0 = 0)∧(us ++ b1 a = us ++ b1 a∧1 = 1)∧True)∧(List.length (us ++ b1 a ++ (b4 (IntKind.wrap .i32 (↑(ByteArray.size s) : Int)) ++ intList s.data.toList)) = n + 1 + (4 + ByteArray.size s)∧List.all (us ++ b1 a ++ (b4 (IntKind.wrap .i32 (↑(ByteArray.size s) : Int)) ++ intList s.data.toList)) isB = true∧Nat.le (n + 1 + (4 + ByteArray.size s) + (4 + ByteArray.size d)) 70368744177664)∧([Value.pointer (some (Addr.mk 0 0 none)),Value.string d] = [Value.pointer (some (Addr.mk 0 0 none)),Value.string d]∧true = true∧true = true∧true = true)∧([Value.slice (some (Addr.mk 9 0 none)) x0 (2 * x0 + 1)] = [Value.slice (some (Addr.mk 9 0 none)) x0 (2 * x0 + 1)]∧0 = 0)∧(us ++ b1 a ++ (b4 (IntKind.wrap .i32 (↑(ByteArray.size s) : Int)) ++ intList s.data.toList) = us ++ b1 a ++ (b4 (IntKind.wrap .i32 (↑(ByteArray.size s) : Int)) ++ intList s.data.toList)∧1 = 1)∧True) (by kernel_rfl) ⟨⟨⟨⟨⟨⟨trivial,h0⟩,h1⟩,h2⟩,⟨⟨h3,⟨h4,h5⟩⟩,⟨⟨rfl,⟨rfl,⟨rfl,rfl⟩⟩⟩,⟨⟨rfl,rfl⟩,⟨⟨rfl,rfl⟩,trivial⟩⟩⟩⟩⟩,⟨⟨h6,⟨h7,h8⟩⟩,⟨⟨rfl,⟨rfl,⟨rfl,rfl⟩⟩⟩,⟨⟨rfl,rfl⟩,⟨⟨rfl,rfl⟩,trivial⟩⟩⟩⟩⟩,⟨⟨h9,⟨h10,h11⟩⟩,⟨⟨rfl,⟨rfl,⟨rfl,rfl⟩⟩⟩,⟨⟨rfl,rfl⟩,⟨⟨rfl,rfl⟩,trivial⟩⟩⟩⟩⟩
theorem e32c_came (n : Nat) (m : Nat) (k : Nat) (us : List Value) (vs : List Value) (h0 : decide ((↑k : Int) < (↑m : Int)) = false) :
  Ran (codeO Tryz.prog E1 (sm0) noRun 100 17 [0,0,1,1,1,1] (codeAt Tryz.f17 [0,0,1,1,1,1]) (mkFr 28 (t32 m k)) (mkHp 5 (o32 4 n us vs m)) [.skip 1,.b false] True) (Exit.exit 0) 28 [(0,Value.pointer (some ⟨0,0,none⟩))] [(0,AObj.cells [Value.slice (some ⟨4,0,none⟩) n (2 * n + 1)] 0),(1,AObj.dead),(2,AObj.rov vs),(3,AObj.word m 2),(4,AObj.cells us 1)] 5 :=
 cameF_of (O:=(True∧decide ((↑k : Int) < (↑m : Int)) = false)) (by kernel_rfl) ⟨trivial,h0⟩
theorem e32d_came (n : Nat) (m : Nat) (k : Nat) (us : List Value) (vs : List Value) (h0 : decide ((↑k : Int) < (↑m : Int)) = false) :
  Ran (codeO Tryz.prog E1 (sm0) noRun 100 17 [0,0,1,1,1,1] (codeAt Tryz.f17 [0,0,1,1,1,1]) (mkFr 28 (t32 m k)) (mkHp 6 (o32 5 n us vs m)) [.skip 1,.b false] True) (Exit.exit 0) 28 [(0,Value.pointer (some ⟨0,0,none⟩))] [(0,AObj.cells [Value.slice (some ⟨5,0,none⟩) n (2 * n + 1)] 0),(1,AObj.dead),(2,AObj.rov vs),(3,AObj.word m 2),(5,AObj.cells us 1)] 6 :=
 cameF_of (O:=(True∧decide ((↑k : Int) < (↑m : Int)) = false)) (by kernel_rfl) ⟨trivial,h0⟩
def q32 (n m n2 : Nat) (us vs row : List Value) : Sm:=withL (withS sm0 20 (wS gw4)) 17 [1,1,1,1] (piece 28 (t32 m 0) (o32 4 (n + 4) (us ++ b4 (IntKind.wrap IntKind.i32 (m : Int))) vs m) 5 .normal (mkFr 28 [(0,.pointer (some ⟨0,0,none⟩))]) (mkHp 6 (o32 5 n2 row vs m)))
theorem c32_came (n : Nat) (m : Nat) (n2 : Nat) (us : List Value) (vs : List Value) (row : List Value) (h0 : List.length us = n) (h1 : List.all us isB = true) (h2 : Nat.le (n + 4) 70368744177664) :
  RanC (runO Tryz.prog E1 (q32 n m n2 us vs row) noRun 100 17 [Value.pointer (some ⟨0,0,none⟩),Value.chan (some 3),Value.func (Fn.func 18) #[] #[]] (mkHp 4 (oWx n m us vs)) [] True) (.returned (Value.tuple (Array.mk []))) [(0,AObj.cells [Value.slice (some ⟨5,0,none⟩) n2 (2 * n2 + 1)] 0),(1,AObj.dead),(2,AObj.rov vs),(3,AObj.word m 2),(5,AObj.cells row 1)] 6 :=
 cameCF_of (O:=(True∧(List.length us = n∧List.all us isB = true∧Nat.le (n + 4) 70368744177664)∧([Value.pointer (some (Addr.mk 0 0 none)),Value.int .i32 (IntKind.wrap .i32 (↑m : Int))] = [Value.pointer (some (Addr.mk 0 0 none)),Value.int .i32 (IntKind.wrap .i32 (↑m : Int))]∧true = true∧true = true∧true = true)∧([Value.slice (some (Addr.mk 1 0 none)) n (2 * n + 1)] = [Value.slice (some (Addr.mk 1 0 none)) n (2 * n + 1)]∧0 = 0)∧(us = us∧1 = 1)∧True)∧SelfP 28 (t32 m 0) (o32 4 (n + 4) (us ++ b4 (IntKind.wrap .i32 (↑m : Int))) vs m) 5) (by kernel_rfl) ⟨⟨trivial,⟨⟨h0,⟨h1,h2⟩⟩,⟨⟨rfl,⟨rfl,⟨rfl,rfl⟩⟩⟩,⟨⟨rfl,rfl⟩,⟨⟨rfl,rfl⟩,trivial⟩⟩⟩⟩⟩,selfP_true _ _ _ _⟩
theorem out_via {P : Program} {E : Env} {pr : Prot} {w0 : World} (hP : Okk P E) {s : Sm} (hs : SmOk P E pr w0 s) {f : Nat} {p : List Nat} {c : Code} (hh : Here E f p c) {n : Nat}
  {T : Type} {L : Lp T} {t : T} {Ψ : Post} {N : Nat} {orc : List Ans} {e : Exit}
  {ts1 : List (Nat × Value)} {os1 : List (Nat × AObj)} {n1 : Nat} (hc : Ran (codeO P E s noRun n f p c (L.fr t) (L.hp t) orc True) e L.sz ts1 os1 n1) (hne : e ≠ .normal) (hnp : ∀ ch,e ≠ .panic ch)
  (σ : Nat → Nat) {ts : List (Nat × Value)} {os : List (Nat × AObj)} {nx : Nat} (ht : ∀ p ∈ ts,(p.1,upV σ p.2) ∈ ts1) (ho : ∀ p ∈ os,(σ p.1,upO σ p.2) ∈ os1) (hinj : ∀ p ∈ os,∀ q ∈ os,p.1 ≠ q.1 → σ p.1 ≠ σ q.1) (hσ : ∀ n,n < N → σ n = n)
  (hF : Fits N ts os nx) (hΨ : Ψ e (mkFr L.sz ts) (mkHp nx os)) :
  Tri P pr w0 N c (L.fr t) (L.hp t) (LoopPost L t Ψ):=by
 refine (tri_came_via hP.hE hP.ng hP.mix hs noRun_ok hh hc.of σ ht ho hinj hnp hF.st hF.so hF.bt hF.bo hF.lim hσ hF.hN).to ?_
 rintro e f μ ⟨rfl,rfl,rfl⟩
 exact .inr ⟨hne,hΨ⟩
def entB (a : Ent) : List Value:=b1 a.1 ++ (b4 (IntKind.wrap IntKind.i32 ((a.2.1.size : Nat) : Int)) ++ intList a.2.1.data.toList) ++ (b4 (IntKind.wrap IntKind.i32 ((a.2.2.size : Nat) : Int)) ++ intList a.2.2.data.toList)
def aB (es : List Ent) : List Value:=es.flatMap entB
theorem entB_len (a : Ent) : (entB a).length = 1 + (4 + a.2.1.size) + (4 + a.2.2.size):=by
 simp [entB,b1,b4_len,intList_len,size_len]
 omega
theorem b4_isB (v : Int) : (b4 v).all isB = true:=rfl
theorem entB_isB (a : Ent) : (entB a).all isB = true:=by
 simp only [entB,List.all_append,intList_isB,b4_isB];rfl
theorem aB_isB (es : List Ent) : (aB es).all isB = true:=by
 simp only [aB,List.all_flatMap,List.all_eq_true]
 exact fun a _ => List.all_eq_true.1 (entB_isB a)
theorem aB_take {es : List Ent} {k : Nat} (h : k < es.length) : aB (es.take (k + 1)) = aB (es.take k) ++ entB es[k]:=by
 rw [aB,aB,List.take_add_one,List.getElem?_eq_getElem h,List.flatMap_append]
 simp
theorem aB_le {es : List Ent} {k : Nat} : (aB (es.take k)).length ≤ (aB es).length:=by
 have : aB es = aB (es.take k) ++ aB (es.drop k):=by
  rw [aB,aB,aB,← List.flatMap_append,List.take_append_drop]
 rw [this,List.length_append]
 omega
def gL (es : List Ent) : List Value:=b4 (IntKind.wrap IntKind.i32 ((es.length : Nat) : Int)) ++ aB es
theorem con32 {n : Nat} {us : List Value} {es : List Ent} (hl : us.length = n) (hu : us.all isB = true) (hm : es.length < 1099511627776) (hb : n + (gL es).length ≤ 70368744177664) :
  ConLG GT Tryz.prog 17 (kX (fun σ => .chan (some (σ 3)) :: [.func (.func 18) #[] #[]]) (fun σ => [(2,.rov (av es)),(3,.word es.length (σ 2))]) 2 n us (gL es) (gL es).length):=by
 subst hl
 have hgl : (gL es).length = 4 + (aB es).length:=by simp [gL,b4_len]
 rw [hgl] at hb
 have hg : (gL es).all isB = true:=by rw [gL,List.all_append,aB_isB];rfl
 have hpl : PlainC [Value.func (.func 18) #[] #[]]:=by
  intro x hx
  simp at hx
  subst hx
  exact ⟨fun N => by simp [Bd],fun σ => by simp [upV]⟩
 generalize hu0 : us ++ b4 (IntKind.wrap IntKind.i32 ((es.length : Nat) : Int)) = us0
 have hu0b : us0.all isB = true:=by rw [← hu0,List.all_append,hu];rfl
 have hu0l : us0.length = us.length + 4:=by rw [← hu0];simp [b4_len]
 have hrow : ∀ k,(us0 ++ aB (es.take k)).length = us.length + 4 + (aB (es.take k)).length:=by intro k;rw [List.length_append,hu0l]
 have hrowb : ∀ k,(us0 ++ aB (es.take k)).all isB = true:=by intro k;rw [List.all_append,hu0b,aB_isB];rfl
 have hF : ∀ R nx ts k,4 ≤ R → R < nx → nx < 100 → (∀ p ∈ ts,Bd nx p.2) → smallN ts = true → Fits 5 ts (o32 R (us.length + 4 + (aB (es.take k)).length) (us0 ++ aB (es.take k)) (av es) es.length) nx ∨ nx < 5:=by
  intro R nx ts k h1 h2 h3 h4 h5
  by_cases h6 : nx < 5
  ·exact .inr h6
  refine .inl ⟨h5,?_,h4,?_,by unfold limit;omega,by omega⟩
  ·refine List.all_eq_true.2 fun p hp => ?_
   rw [Nat.blt_eq]
   unfold limit
   simp only [o32,List.mem_cons,List.not_mem_nil,or_false] at hp
   rcases hp with rfl | rfl | rfl | rfl | rfl <;> simp only <;> omega
  ·intro p hp
   simp only [o32,List.mem_cons,List.not_mem_nil,or_false] at hp
   rcases hp with rfl | rfl | rfl | rfl | rfl
   ·exact ⟨by simp only;omega,by simp [BdO];omega⟩
   ·exact ⟨by simp only;omega,trivial⟩
   ·exact ⟨by simp only;omega,trivial⟩
   ·exact ⟨by simp only;omega,by simp [BdO];omega⟩
   ·exact ⟨by simp only;omega,fun v hv => (isB_plain (hrowb k) v hv).1 _⟩
 have hF5 : ∀ R nx ts k,4 ≤ R → R < nx → nx < 100 → 5 ≤ nx → (∀ p ∈ ts,Bd nx p.2) → smallN ts = true → Fits 5 ts (o32 R (us.length + 4 + (aB (es.take k)).length) (us0 ++ aB (es.take k)) (av es) es.length) nx:=by
  intro R nx ts k h1 h2 h3 h6 h4 h5
  rcases hF R nx ts k h1 h2 h3 h4 h5 with h | h
  ·exact h
  ·omega
 have ht : ∀ nx,5 ≤ nx → ∀ k,∀ p ∈ t32 es.length k,Bd nx p.2:=by
  intro nx hnx k p hp
  simp only [t32,List.mem_cons,List.not_mem_nil,or_false] at hp
  rcases hp with rfl | rfl | rfl | rfl | rfl <;> simp [Bd] <;> omega
 have hz : us0 ++ aB (es.take 0) = us0:=by simp [aB]
 have hzn : us.length + 4 + (aB (es.take 0)).length = us.length + 4:=by simp [aB]
 have hbody : ∀ pr w0,GT pr w0 → PieceOk Tryz.prog pr w0 0 (.block 0 (.loop (codeAt Tryz.f17 [0,0,1,1,1,1]))) (piece 28 (t32 es.length 0) (o32 4 (us.length + 4) us0 (av es) es.length) 5 .normal (mkFr 28 [(0,.pointer (some ⟨0,0,none⟩))]) (mkHp 6 (o32 5 (us.length + 4 + (aB es).length) (us0 ++ aB es) (av es) es.length))):=by
  intro pr w0 hG
  have h0:=hF5 4 5 (t32 es.length 0) 0 (by omega) (by omega) (by omega) (by omega) (ht 5 (by omega) 0) rfl
  rw [hz,hzn] at h0
  refine block_end h0 ?_
  have hh : Here E1 17 [0,0,1,1,1,1] (codeAt Tryz.f17 [0,0,1,1,1,1]):=codeAt_here (fn:=Tryz.f17) (by kernel_rfl) (by kernel_rfl)
  have h0L:=rounds_tri (P:=Tryz.prog) (pr:=pr) (w0:=w0) (T:={ k : Nat // k ≤ es.length }) ⟨28,fun t => t32 es.length t.1,fun t => match t.1 with
    | 0 => o32 4 (us.length + 4) us0 (av es) es.length
    | k + 1 => o32 5 (us.length + 4 + (aB (es.take (k + 1))).length) (us0 ++ aB (es.take (k + 1))) (av es) es.length,fun t => match t.1 with
    | 0 => 5
    | k + 1 => 6,fun t => es.length - t.1⟩ (N:=5) (c:=codeAt Tryz.f17 [0,0,1,1,1,1]) (Ψ:=fun e f μ => e = .exit 0∧f = mkFr 28 [(0,.pointer (some ⟨0,0,none⟩))]∧μ = mkHp 6 (o32 5 (us.length + 4 + (aB es).length) (us0 ++ aB es) (av es) es.length)) ?_ ⟨0,Nat.zero_le _⟩
  ·exact h0L
  ·have hround : ∀ (a : Ent) (r : List Value) (n : Nat),r.length = n → r.all isB = true → n + (entB a).length ≤ 70368744177664 →
     Nat.le (n + 1) 70368744177664∧(r ++ b1 a.1).length = n + 1∧(r ++ b1 a.1).all isB = true∧Nat.le (n + 1 + (4 + a.2.1.size)) 70368744177664 ∧
     (r ++ b1 a.1 ++ (b4 (IntKind.wrap IntKind.i32 ((a.2.1.size : Nat) : Int)) ++ intList a.2.1.data.toList)).length = n + 1 + (4 + a.2.1.size)∧(r ++ b1 a.1 ++ (b4 (IntKind.wrap IntKind.i32 ((a.2.1.size : Nat) : Int)) ++ intList a.2.1.data.toList)).all isB = true ∧
     Nat.le (n + 1 + (4 + a.2.1.size) + (4 + a.2.2.size)) 70368744177664:=by
    intro a r n h1 h2 h3
    rw [entB_len] at h3
    subst h1
    refine ⟨?_,by simp [b1],?_,?_,by simp [b1,b4_len,intList_len,size_len];omega,?_,?_⟩
    ·show r.length + 1 ≤ 70368744177664;omega
    ·rw [List.all_append,h2];rfl
    ·show r.length + 1 + (4 + a.2.1.size) ≤ 70368744177664;omega
    ·simp only [List.all_append,h2,intList_isB,b4_isB];rfl
    ·show r.length + 1 + (4 + a.2.1.size) + (4 + a.2.2.size) ≤ 70368744177664;omega
   have e1 : ∀ (a : Ent) (r : List Value),r ++ b1 a.1 ++ (b4 (IntKind.wrap IntKind.i32 ((a.2.1.size : Nat) : Int)) ++ intList a.2.1.data.toList) ++ (b4 (IntKind.wrap IntKind.i32 ((a.2.2.size : Nat) : Int)) ++ intList a.2.2.data.toList) = r ++ entB a:=by intro a r;simp [entB]
   have e2 : ∀ (a : Ent) (n : Nat),n + 1 + (4 + a.2.1.size) + (4 + a.2.2.size) = n + (entB a).length:=by intro a n;rw [entB_len];omega
   have hsW3 : SmOk Tryz.prog E1 pr w0 sW3:=withS_ok (withS_ok (sm0_ok pr w0) (s29_ok hG)) (s30_ok hG)
   have pl : ∀ k σ,List.map (upV σ) (us0 ++ aB (es.take k)) = us0 ++ aB (es.take k):=fun k σ => (isB_plain (hrowb k)).map σ
   have nexts : ∀ k (h : k < es.length),(us0 ++ aB (es.take k)) ++ entB es[k] = us0 ++ aB (es.take (k + 1))∧us.length + 4 + (aB (es.take k)).length + (entB es[k]).length = us.length + 4 + (aB (es.take (k + 1))).length∧us.length + 4 + (aB (es.take k)).length + (entB es[k]).length ≤ 70368744177664:=by
    intro k h
    have h1:=aB_take h
    have h2 : (aB (es.take (k + 1))).length ≤ (aB es).length:=aB_le
    rw [h1,List.length_append] at h2
    refine ⟨by rw [h1,List.append_assoc],by rw [h1,List.length_append];omega,by omega⟩
   rintro ⟨k,hk⟩
   cases k with
   | zero =>
    by_cases hlt : 0 < es.length
    ·obtain ⟨g1,g2,g3⟩:=nexts 0 hlt
     rw [hz] at g1
     rw [hzn] at g2 g3
     obtain ⟨r1,r2,r3,r4,r5,r6,r7⟩:=hround es[0] us0 (us.length + 4) hu0l hu0b g3
     have hc:=e32a_came (us.length + 4) es.length 0 us0 (av es) es[0].1 es[0].2.1 es[0].2.2 (by simp;omega) (by omega) (by rw [Int.toNat_natCast];exact av_get hlt) hu0l hu0b r1 r2 r3 r4 r5 r6 r7
     rw [e1,e2,g1,g2,i64_succ (by omega)] at hc
     refine on_via hP1 hsW3 hh hc (fun n => if n = 5 then 9 else n) ⟨1,hlt⟩ ?_ ?_ ?_ ?_ (by simp only;omega) (hF5 5 6 _ 1 (by omega) (by omega) (by omega) (by omega) (ht 6 (by omega) _) rfl)
     ·intro p hp
      simp only [t32,List.mem_cons,List.not_mem_nil,or_false] at hp
      rcases hp with rfl | rfl | rfl | rfl | rfl <;> simp [upV]
     ·intro p hp
      simp only [o32,List.mem_cons,List.not_mem_nil,or_false] at hp
      rcases hp with rfl | rfl | rfl | rfl | rfl
      ·simp [upO,upV]
      ·simp [upO]
      ·simp [upO]
      ·simp [upO]
      ·simp only [upO,pl,if_true];simp
     ·intro p hp q hq hne
      simp only [o32,List.mem_cons,List.not_mem_nil,or_false] at hp hq
      rcases hp with rfl | rfl | rfl | rfl | rfl <;> rcases hq with rfl | rfl | rfl | rfl | rfl <;> simp at hne ⊢
     ·intro m hm
      rw [if_neg (by omega)]
    ·have he : es = []:=List.eq_nil_of_length_eq_zero (by omega)
     have hc:=e32c_came (us.length + 4) es.length 0 us0 (av es) (by simp [he])
     refine out_via hP1 (sm0_ok pr w0) hh hc (by simp) (by simp) (fun n => if n = 5 then 4 else n) (ts:=[(0,.pointer (some ⟨0,0,none⟩))]) (os:=o32 5 (us.length + 4 + (aB es).length) (us0 ++ aB es) (av es) es.length) (nx:=6) ?_ ?_ ?_ ?_ ?_ ⟨rfl,rfl,rfl⟩
     ·intro p hp
      simp only [List.mem_cons,List.not_mem_nil,or_false] at hp
      subst hp
      simp [upV]
     ·have ea : aB es = []:=by simp [he,aB]
      intro p hp
      simp only [o32,ea,List.append_nil,List.length_nil,Nat.add_zero,List.mem_cons,List.not_mem_nil,or_false] at hp
      rcases hp with rfl | rfl | rfl | rfl | rfl
      ·simp [upO,upV]
      ·simp [upO]
      ·simp [upO]
      ·simp [upO]
      ·simp only [upO,(isB_plain hu0b).map,if_true];simp
     ·intro p hp q hq hne
      simp only [o32,List.mem_cons,List.not_mem_nil,or_false] at hp hq
      rcases hp with rfl | rfl | rfl | rfl | rfl <;> rcases hq with rfl | rfl | rfl | rfl | rfl <;> simp at hne ⊢
     ·intro m hm
      rw [if_neg (by omega)]
     ·have:=hF5 5 6 [(0,.pointer (some ⟨0,0,none⟩))] es.length (by omega) (by omega) (by omega) (by omega) (by simp) rfl
      rw [List.take_length] at this
      exact this
   | succ k =>
    by_cases hlt : k + 1 < es.length
    ·obtain ⟨g1,g2,g3⟩:=nexts (k + 1) hlt
     obtain ⟨r1,r2,r3,r4,r5,r6,r7⟩:=hround es[k + 1] (us0 ++ aB (es.take (k + 1))) (us.length + 4 + (aB (es.take (k + 1))).length) (hrow _) (hrowb _) g3
     have hc:=e32b_came (us.length + 4 + (aB (es.take (k + 1))).length) es.length (k + 1) (us0 ++ aB (es.take (k + 1))) (av es) es[k + 1].1 es[k + 1].2.1 es[k + 1].2.2 (by simp;omega) (by omega) (by rw [Int.toNat_natCast];exact av_get hlt) (hrow _) (hrowb _) r1 r2 r3 r4 r5 r6 r7
     rw [e1,e2,g1,g2,i64_succ (by omega)] at hc
     refine on_via hP1 hsW3 hh hc (fun n => if n = 5 then 10 else n) ⟨k + 1 + 1,hlt⟩ ?_ ?_ ?_ ?_ (by simp only;omega) (hF5 5 6 _ (k + 1 + 1) (by omega) (by omega) (by omega) (by omega) (ht 6 (by omega) _) rfl)
     ·intro p hp
      simp only [t32,List.mem_cons,List.not_mem_nil,or_false] at hp
      rcases hp with rfl | rfl | rfl | rfl | rfl <;> simp [upV]
     ·intro p hp
      simp only [o32,List.mem_cons,List.not_mem_nil,or_false] at hp
      rcases hp with rfl | rfl | rfl | rfl | rfl
      ·simp [upO,upV]
      ·simp [upO]
      ·simp [upO]
      ·simp [upO]
      ·simp only [upO,pl,if_true];simp
     ·intro p hp q hq hne
      simp only [o32,List.mem_cons,List.not_mem_nil,or_false] at hp hq
      rcases hp with rfl | rfl | rfl | rfl | rfl <;> rcases hq with rfl | rfl | rfl | rfl | rfl <;> simp at hne ⊢
     ·intro m hm
      rw [if_neg (by omega)]
    ·have he : k + 1 = es.length:=by omega
     have hc:=e32d_came (us.length + 4 + (aB (es.take (k + 1))).length) es.length (k + 1) (us0 ++ aB (es.take (k + 1))) (av es) (by simp;omega)
     have hF6:=hF5 5 6 [(0,.pointer (some ⟨0,0,none⟩))] (k + 1) (by omega) (by omega) (by omega) (by omega) (by simp) rfl
     refine out_came hP1 (sm0_ok pr w0) hh hc (by simp) (by simp) hF6 ⟨rfl,rfl,?_⟩
     rw [he,List.take_length]
     rfl
 subst hu0
 rw [hgl]
 exact kX_ok 5 (fun pr w0 hG => withL_ok (withS_ok (sm0_ok pr w0) (s35_ok hG)) (fn:=Tryz.f17) (c:=.block 0 (.loop (codeAt Tryz.f17 [0,0,1,1,1,1]))) (by kernel_rfl) (by kernel_rfl) (hbody pr w0 hG))
  (c32_came us.length es.length (us.length + 4 + (aB es).length) us (av es) (us ++ b4 (IntKind.wrap IntKind.i32 ((es.length : Nat) : Int)) ++ aB es) rfl hu (by show us.length + 4 ≤ 70368744177664;omega)) (List.mem_cons_self ..) (List.mem_of_getElem? (i:=1) rfl) (List.mem_of_getElem? (i:=4) rfl) (by omega) (exs31 _ _ _ hpl) hu hg (by simp [gL]) (by omega) (by omega)
end Go.Abs
end
section
namespace Go.Abs
open Go.Proofs
set_option maxRecDepth 100000
def fnv (h x : Int) : Int:=IntKind.wrap IntKind.u64 (IntKind.wrap IntKind.u64 (↑(BitVec.toNat (BitVec.ofInt 64 h ^^^ BitVec.ofInt 64 (IntKind.wrap IntKind.u64 x))) : Int) * 1099511628211)
def fnvL (bs : List Int) : Int:=bs.foldl fnv 14695981039346656037
def oS (vs : List Value) : List (Nat × AObj):=[(0,.rov vs)]
def t38 (o c n k : Nat) (h : Int) : List (Nat × Value):=[(0,.slice (some ⟨0,o,none⟩) n c),(3,.int .u64 h),(4,.int .i64 k)]
def t85 (N k : Nat) : List (Nat × Value):=[(0,.slice (some ⟨3,0,none⟩) N (2 * N + 1)),(1,.pointer (some ⟨2,0,none⟩)),(6,.int .i64 N),(7,.int .i64 k)]
def o85 (n : Nat) (vs us : List Value) (h : Int) : List (Nat × AObj):=[(0,.cells [.slice (some ⟨1,0,none⟩) n (2 * n + 1)] 0),(1,.cells vs 1),(2,.cells [.int .u64 h] 0),(3,.cells us 1)]
theorem e38_0 (o : Nat) (c : Nat) (n : Nat) (k : Nat) (h : Int) (vs : List Value) (x : Int) (h0 : decide ((↑k : Int) < (↑n : Int)) = true) (h1 : 0 ≤ (↑k : Int)∧(↑k : Int) < (↑n : Int)) (h2 : vs[o + Int.toNat (↑k : Int) * 1]? = some (Value.int IntKind.u8 x)) :
  Ran (codeO Tryz.prog E1 (sm0) noRun 100 23 [0,0,1,0,1,1] (codeAt Tryz.f23 [0,0,1,0,1,1]) (mkFr 21 (t38 o c n k h)) (mkHp 1 (oS vs)) [.skip 4,.b true,.skip 3,.sym,.v (Value.int IntKind.u8 x)] True) (Exit.normal) 21 [(0,Value.slice (some (Addr.mk 0 o none)) n c),(3,Value.int IntKind.u64 (IntKind.wrap IntKind.u64 (IntKind.wrap IntKind.u64 (↑(BitVec.toNat (BitVec.ofInt 64 h ^^^ BitVec.ofInt 64 (IntKind.wrap IntKind.u64 x))) : Int) * 1099511628211))),(4,Value.int IntKind.i64 (IntKind.wrap IntKind.i64 ((↑k : Int) + 1)))] [(0,AObj.rov vs)] 1 :=
 cameF_of (O:=(((True∧decide ((↑k : Int) < (↑n : Int)) = true)∧0 ≤ (↑k : Int)∧(↑k : Int) < (↑n : Int))∧vs[o + Int.toNat (↑k : Int) * 1]? = some (Value.int IntKind.u8 x))) (by kernel_rfl) ⟨⟨⟨trivial,h0⟩,h1⟩,h2⟩
theorem e38_1 (o : Nat) (c : Nat) (n : Nat) (k : Nat) (h : Int) (vs : List Value) (x : Int) (h0 : decide ((↑k : Int) < (↑n : Int)) = false) :
  Ran (codeO Tryz.prog E1 (sm0) noRun 100 23 [0,0,1,0,1,1] (codeAt Tryz.f23 [0,0,1,0,1,1]) (mkFr 21 (t38 o c n k h)) (mkHp 1 (oS vs)) [.skip 4,.b false] True) (Exit.exit 0) 21 [(0,Value.slice (some (Addr.mk 0 o none)) n c),(3,Value.int IntKind.u64 h),(4,Value.int IntKind.i64 (↑k : Int))] [(0,AObj.rov vs)] 1 :=
 cameF_of (O:=(True∧decide ((↑k : Int) < (↑n : Int)) = false)) (by kernel_rfl) ⟨trivial,h0⟩
theorem e85_0 (n : Nat) (N : Nat) (k : Nat) (h : Int) (vs : List Value) (us : List Value) (x : Int) (h0 : decide ((↑k : Int) < (↑N : Int)) = true) (h1 : 0 ≤ (↑k : Int)∧(↑k : Int) < (↑N : Int)) (h2 : us[0 + Int.toNat (↑k : Int) * 1]? = some (Value.int IntKind.u8 x)) :
  Ran (codeO Tryz.prog E1 (sm0) noRun 100 69 [0,0,1,0,1] (codeAt Tryz.f69 [0,0,1,0,1]) (mkFr 20 (t85 N k)) (mkHp 4 (o85 n vs us h)) [.skip 1,.b true,.skip 5,.sym,.v (Value.int IntKind.u8 x)] True) (Exit.normal) 20 [(0,Value.slice (some (Addr.mk 3 0 none)) N (2 * N + 1)),(1,Value.pointer (some (Addr.mk 2 0 none))),(6,Value.int IntKind.i64 (↑N : Int)),(7,Value.int IntKind.i64 (IntKind.wrap IntKind.i64 ((↑k : Int) + 1)))] [(0,AObj.cells [Value.slice (some (Addr.mk 1 0 none)) n (2 * n + 1)] 0),(1,AObj.cells vs 1),(2,AObj.cells [Value.int IntKind.u64 (IntKind.wrap IntKind.u64 (IntKind.wrap IntKind.u64 (↑(BitVec.toNat (BitVec.ofInt 64 h ^^^ BitVec.ofInt 64 (IntKind.wrap IntKind.u64 x))) : Int) * 1099511628211))] 0),(3,AObj.cells us 1)] 4 :=
 cameF_of (O:=((((True∧decide ((↑k : Int) < (↑N : Int)) = true)∧0 ≤ (↑k : Int)∧(↑k : Int) < (↑N : Int))∧us[0 + Int.toNat (↑k : Int) * 1]? = some (Value.int IntKind.u8 x))∧True∧True∧True∧True∧True∧True∧True∧True∧True∧True)) (by kernel_rfl) ⟨⟨⟨⟨trivial,h0⟩,h1⟩,h2⟩,⟨trivial,⟨trivial,⟨trivial,⟨trivial,⟨trivial,⟨trivial,⟨trivial,⟨trivial,⟨trivial,trivial⟩⟩⟩⟩⟩⟩⟩⟩⟩⟩
theorem e85_1 (n : Nat) (N : Nat) (k : Nat) (h : Int) (vs : List Value) (us : List Value) (x : Int) (h0 : decide ((↑k : Int) < (↑N : Int)) = false) :
  Ran (codeO Tryz.prog E1 (sm0) noRun 100 69 [0,0,1,0,1] (codeAt Tryz.f69 [0,0,1,0,1]) (mkFr 20 (t85 N k)) (mkHp 4 (o85 n vs us h)) [.skip 1,.b false] True) (Exit.exit 0) 20 [(0,Value.slice (some (Addr.mk 3 0 none)) N (2 * N + 1)),(1,Value.pointer (some (Addr.mk 2 0 none))),(6,Value.int IntKind.i64 (↑N : Int)),(7,Value.int IntKind.i64 (↑k : Int))] [(0,AObj.cells [Value.slice (some (Addr.mk 1 0 none)) n (2 * n + 1)] 0),(1,AObj.cells vs 1),(2,AObj.cells [Value.int IntKind.u64 h] 0),(3,AObj.cells us 1)] 4 :=
 cameF_of (O:=(True∧decide ((↑k : Int) < (↑N : Int)) = false)) (by kernel_rfl) ⟨trivial,h0⟩
def q38 (o c n : Nat) (H : Int) (vs : List Value) : Sm:=withL sm0 23 [1,0,1,1] (piece 21 (t38 o c n 0 14695981039346656037) (oS vs) 1 .normal (mkFr 21 [(3,.int .u64 H)]) (mkHp 1 (oS vs)))
theorem c38_came (o : Nat) (c : Nat) (n : Nat) (H : Int) (vs : List Value)  :
  RanC (runO Tryz.prog E1 (q38 o c n H vs) noRun 100 23 [Value.slice (some ⟨0,o,none⟩) n c] (mkHp 1 (oS vs)) [] True) (.returned (Value.int .u64 H)) [(0,AObj.rov vs)] 1 :=
 cameCF_of (O:=(True∧SelfP 21 (t38 o c n 0 14695981039346656037) (oS vs) 1)) (by kernel_rfl) ⟨trivial,selfP_true _ _ _ _⟩
def fnvK (bs : List Int) (k : Nat) : Int:=(bs.take k).foldl fnv 14695981039346656037
theorem fnvK_succ {bs : List Int} {k : Nat} (h : k < bs.length) : fnvK bs (k + 1) = fnv (fnvK bs k) (bs.getD k 0):=by
 unfold fnvK
 rw [List.take_add_one,getD_some h]
 simp
theorem fnvK_all (bs : List Int) : fnvK bs bs.length = fnvL bs:=by simp [fnvK,fnvL]
def IsB (vs : List Value) (o : Nat) (bs : List Int) : Prop:=∀ i b,bs[i]? = some b → vs[o + i]? = some (.int .u8 b)
theorem con38 {o c : Nat} {bs : List Int} {vs : List Value} (hvs : IsB vs o bs) (hsm : bs.length < 9223372036854775807) :
  ConOk Tryz.prog 23 ⟨fun σ => [.slice (some ⟨σ 0,o,none⟩) bs.length c],oS vs,1,fun _ => .int .u64 (fnvL bs),fun _ => []⟩:=by
 have hF : ∀ ts,(∀ p ∈ ts,Bd 1 p.2) → smallN ts = true → Fits 1 ts (oS vs) 1:=fun ts h1 h2 => ⟨h2,rfl,h1,by simp [oS,BdO],by decide,by decide⟩
 refine con_read hP1 (s:=q38 o c bs.length (fnvL bs) vs) (fun pr w0 => withL_ok (sm0_ok pr w0) (fn:=Tryz.f23) (c:=.block 0 (.loop (codeAt Tryz.f23 [0,0,1,0,1,1]))) (by kernel_rfl) (by kernel_rfl) (block_end (hF _ (by simp [t38]) rfl) ?_)) (c38_came o c bs.length (fnvL bs) vs) (hF _ (by simp) rfl) (hF _ (by simp) rfl) (by simp) (by simp) (by intro σ;simp [upV]) (by intro σ;simp [upV])
 have hh : Here E1 23 [0,0,1,0,1,1] (codeAt Tryz.f23 [0,0,1,0,1,1]):=codeAt_here (fn:=Tryz.f23) (by kernel_rfl) (by kernel_rfl)
 refine rounds_tri (T:={ k : Nat // k ≤ bs.length }) ⟨21,fun t => t38 o c bs.length t.1 (fnvK bs t.1),fun _ => oS vs,fun _ => 1,fun t => bs.length - t.1⟩ ?_ ⟨0,Nat.zero_le _⟩
 rintro ⟨k,hk⟩
 by_cases hlt : k < bs.length
 ·have hc:=e38_0 o c bs.length k (fnvK bs k) vs (bs.getD k 0) (by simp;omega) (by omega) (by rw [Nat.mul_one];exact hvs k _ (getD_some hlt))
  have hk1 : IntKind.i64.wrap ((k : Int) + 1) = ((k + 1 : Nat) : Int):=by rw [i64_small (by omega) (by omega)];rfl
  have hs : IntKind.wrap IntKind.u64 (IntKind.wrap IntKind.u64 (↑(BitVec.toNat (BitVec.ofInt 64 (fnvK bs k) ^^^ BitVec.ofInt 64 (IntKind.wrap IntKind.u64 (bs.getD k 0)))) : Int) * 1099511628211) = fnvK bs (k + 1):=by rw [fnvK_succ hlt];rfl
  rw [hk1,hs] at hc
  exact on_came hP1 (sm0_ok pr w0) hh hc ⟨k + 1,hlt⟩ rfl rfl rfl (by simp only;omega) (hF _ (by simp [t38]) rfl)
 ·have hk' : k = bs.length:=by omega
  subst hk'
  have hc:=cut_came (e38_1 o c bs.length bs.length (fnvK bs bs.length) vs 0 (by simp)) (ts':=[(3,.int .u64 (fnvL bs))]) (by simp [fnvK_all])
  exact out_came hP1 (sm0_ok pr w0) hh hc (by simp) (by simp) (hF _ (by simp) rfl) ⟨rfl,rfl,rfl⟩
def q37 (n : Nat) (H : Int) (vs : List Value) : Sm:=withL sm0 69 [1,0,1] (piece 20 (t85 (0 + n) 0) (o85 n vs ([] ++ List.take (n * 1) (List.drop 0 vs)) 14695981039346656037) 4 .normal (mkFr 20 [(1,.pointer (some ⟨2,0,none⟩))]) (mkHp 4 (o85 n vs ([] ++ List.take (n * 1) (List.drop 0 vs)) H)))
def kN (n : Nat) (us : List Value) (h : Int) : ConL:=⟨fun σ => [.pointer (some ⟨σ 0,0,none⟩)],fun σ => [(0,.cells [.slice (some ⟨σ 1,0,none⟩) n (2 * n + 1)] 0),(1,.cells us 1)],2,fun _ => .int .u64 h,fun σ => [(0,.cells [.slice (some ⟨σ 1,0,none⟩) n (2 * n + 1)] 0),(1,.cells us 1)],fun _ => []⟩
theorem c37_came (n : Nat) (H : Int) (vs : List Value) (h0 : 0 + n * 1 ≤ List.length vs∧0 = 0∧0 = 0∧n ≠ 0∧(0 + n) * 1 ≤ 140737488355328∧0 + n ≤ 4611686018427387904∧0 = 0∧List.length (List.take (n * 1) (List.drop 0 vs)) = n * 1∧List.all (List.take (n * 1) (List.drop 0 vs)) one = true) :
  RanC (runO Tryz.prog E1 (q37 n H vs) noRun 100 22 [Value.pointer (some ⟨0,0,none⟩)] (mkHp 2 (oWr n vs)) [.skip 19,.grow false] True) (.returned (Value.int .u64 H)) [(0,AObj.cells [Value.slice (some ⟨1,0,none⟩) n (2 * n + 1)] 0),(1,AObj.cells vs 1),(2,AObj.cells [Value.int .u64 H] 0),(3,AObj.cells ([] ++ List.take (n * 1) (List.drop 0 vs)) 1)] 4 :=
 cameCF_of (O:=((True∧0 + n * 1 ≤ List.length vs∧0 = 0∧0 = 0∧n ≠ 0∧(0 + n) * 1 ≤ 140737488355328∧0 + n ≤ 4611686018427387904∧0 = 0∧List.length (List.take (n * 1) (List.drop 0 vs)) = n * 1∧List.all (List.take (n * 1) (List.drop 0 vs)) one = true)∧SelfP 20 (t85 (0 + n) 0) (o85 n vs ([] ++ List.take (n * 1) (List.drop 0 vs)) 14695981039346656037) 4)) (by kernel_rfl) ⟨⟨trivial,h0⟩,selfP_true _ _ _ _⟩
theorem con37 {bs : List Int} (hne : bs.length ≠ 0) (hsm : bs.length ≤ 1099511627776) : ConLG GT Tryz.prog 22 (kN bs.length (bv bs) (fnvL bs)):=by
 have hbl : (bv bs).length = bs.length:=by simp [bv]
 have hus : [] ++ List.take (bs.length * 1) (List.drop 0 (bv bs)) = bv bs:=by rw [Nat.mul_one,List.drop_zero,List.nil_append,List.take_of_length_le (by omega)]
 have hcell : PlainC (bv bs):=by
  intro v hv
  obtain ⟨b,_,rfl⟩:=List.mem_map.1 hv
  exact ⟨fun N => by simp,fun σ => by simp [upV]⟩
 have hone : (bv bs).all one = true:=List.all_eq_true.2 fun v hv => by
  obtain ⟨b,_,rfl⟩:=List.mem_map.1 hv
  rfl
 have hbo : ∀ h,∀ p ∈ o85 bs.length (bv bs) (bv bs) h,p.1 < 4∧BdO 4 p.2:=by
  intro h p hp
  simp only [o85,List.mem_cons,List.not_mem_nil,or_false] at hp
  rcases hp with rfl | rfl | rfl | rfl
  ·refine ⟨(by decide : 0 < 4),?_⟩;simp [BdO]
  ·exact ⟨(by decide : 1 < 4),fun v hv => (hcell v hv).1 _⟩
  ·refine ⟨(by decide : 2 < 4),?_⟩;simp [BdO]
  ·exact ⟨(by decide : 3 < 4),fun v hv => (hcell v hv).1 _⟩
 have hF : ∀ h ts,(∀ p ∈ ts,Bd 4 p.2) → smallN ts = true → Fits 4 ts (o85 bs.length (bv bs) (bv bs) h) 4:=fun h ts h1 h2 => ⟨h2,rfl,h1,hbo h,by decide,by decide⟩
 have hbody : ∀ pr w0,PieceOk Tryz.prog pr w0 0 (.block 0 (.loop (codeAt Tryz.f69 [0,0,1,0,1]))) (piece 20 (t85 (0 + bs.length) 0) (o85 bs.length (bv bs) (bv bs) 14695981039346656037) 4 .normal (mkFr 20 [(1,.pointer (some ⟨2,0,none⟩))]) (mkHp 4 (o85 bs.length (bv bs) (bv bs) (fnvL bs)))):=by
  intro pr w0
  refine block_end (hF _ _ (by simp [t85]) rfl) ?_
  rw [← fnvK_all bs]
  have hh : Here E1 69 [0,0,1,0,1] (codeAt Tryz.f69 [0,0,1,0,1]):=codeAt_here (fn:=Tryz.f69) (by kernel_rfl) (by kernel_rfl)
  refine rounds_tri (T:={ k : Nat // k ≤ bs.length }) ⟨20,fun t => t85 (0 + bs.length) t.1,fun t => o85 bs.length (bv bs) (bv bs) (fnvK bs t.1),fun _ => 4,fun t => bs.length - t.1⟩ ?_ ⟨0,Nat.zero_le _⟩
  rintro ⟨k,hk⟩
  by_cases hlt : k < bs.length
  ·have hc:=e85_0 bs.length (0 + bs.length) k (fnvK bs k) (bv bs) (bv bs) (bs.getD k 0) (by simp;omega) (by omega) (by rw [Int.toNat_natCast];exact bv_get hlt)
   have hk1 : IntKind.i64.wrap ((k : Int) + 1) = ((k + 1 : Nat) : Int):=by rw [i64_small (by omega) (by omega)];rfl
   have hs : IntKind.wrap IntKind.u64 (IntKind.wrap IntKind.u64 (↑(BitVec.toNat (BitVec.ofInt 64 (fnvK bs k) ^^^ BitVec.ofInt 64 (IntKind.wrap IntKind.u64 (bs.getD k 0)))) : Int) * 1099511628211) = fnvK bs (k + 1):=by rw [fnvK_succ hlt];rfl
   rw [hk1,hs] at hc
   exact on_came hP1 (sm0_ok pr w0) hh hc ⟨k + 1,hlt⟩ rfl rfl rfl (by simp only;omega) (hF _ _ (by simp [t85]) rfl)
  ·have hk' : k = bs.length:=by omega
   subst hk'
   have hc:=cut_came (e85_1 bs.length (0 + bs.length) bs.length (fnvK bs bs.length) (bv bs) (bv bs) 0 (by simp)) (ts':=[(1,.pointer (some ⟨2,0,none⟩))]) (by simp)
   exact out_came hP1 (sm0_ok pr w0) hh hc (by simp) (by simp) (hF _ _ (by simp) rfl) ⟨rfl,rfl,rfl⟩
 have hos : ∀ p ∈ [(0,AObj.cells [.slice (some ⟨1,0,none⟩) bs.length (2 * bs.length + 1)] 0),(1,AObj.cells (bv bs) 1)],p.1 < 2∧BdO 2 p.2:=by
  intro p hp
  simp only [List.mem_cons,List.not_mem_nil,or_false] at hp
  rcases hp with rfl | rfl
  ·exact ⟨by simp,by simp [BdO]⟩
  ·exact ⟨by simp,fun v hv => (hcell v hv).1 _⟩
 have hcc:=c37_came bs.length (fnvL bs) (bv bs) ⟨by omega,rfl,rfl,hne,by omega,by omega,rfl,by rw [Nat.mul_one,List.drop_zero,List.take_of_length_le (by omega),hbl],by rw [Nat.mul_one,List.drop_zero,List.take_of_length_le (by omega)];exact hone⟩
 rw [q37,hus] at hcc
 refine ⟨rfl,fun p hp => (hos p hp).1,fun p hp => (hos p hp).2,by simp [kN],(by decide : 2 ≤ limit),fun p hp => (hos p hp).1,fun p hp _ => ⟨p,hp,rfl⟩,by intro σ;simp [kN,upV],by intro σ;simp [kN,upO,upV,hcell.map],by intro σ;simp [kN,upV],by intro σ;simp [kN,upO,upV,hcell.map],fun σ => rfl,mkHp 2 [(0,.cells [.slice (some ⟨1,0,none⟩) bs.length (2 * bs.length + 1)] 0),(1,.cells (bv bs) 1)],
  localG_via (v:=.int .u64 (fnvL bs)) (v0:=.int .u64 (fnvL bs)) hP1 (fun pr w0 _ => withL_ok (sm0_ok pr w0) (fn:=Tryz.f69) (c:=.block 0 (.loop (codeAt Tryz.f69 [0,0,1,0,1]))) (by kernel_rfl) (by kernel_rfl) (hbody pr w0)) hcc (fun n => n) (by simp [upV]) ?_ (fun p _ q _ h => h) (fun _ _ => rfl) (by simp [kN,mkHp]) rfl hos (by decide) (Nat.le_refl _) (by simp),rfl,?_,fun j o hj => by simp [kN] at hj⟩
 ·intro p hp
  rw [upO_id]
  simp only [List.mem_cons,List.not_mem_nil,or_false] at hp
  rcases hp with rfl | rfl
  ·exact List.mem_cons_self ..
  ·exact List.mem_cons_of_mem _ (List.mem_cons_self ..)
 ·intro p hp
  simp only [kN,List.mem_cons,List.not_mem_nil,or_false] at hp
  rw [Hp.get,mkHp,mkT_get _ _ (smallN_spec (by rfl))]
  rcases hp with rfl | rfl <;> simp [look]
end Go.Abs
end
