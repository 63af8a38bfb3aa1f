/-
  What the law's functions come to: part C.
-/
import Derived.Test.YthopfmokkpoabaaGreatDoorDnB
set_option linter.unusedVariables false
set_option linter.unusedSimpArgs false
set_option linter.unusedSectionVars false
section
namespace Go.Abs
open Go.Proofs
set_option maxRecDepth 100000
def asI : Value → Int
 | .int _ i => i
 | _ => 0
def fnvV (us : List Value) : Int:=fnvL (us.map asI)
def wordX (μ : Hp) (q : List Nat → List Value → Nat → List Value → Nat → Option (ConL × Prop)) : List Value → Option (List Nat × ConL × Prop)
 | .pointer (some p) :: .chan (some w) :: _ => match μ.get p.block,μ.get w with
  | some (.cells [.slice (some a) n _] _),some (.word m r) => match μ.get a.block,μ.get r with
   | some (.cells us _),some (.rov vs) => match q [] us n vs m with
    | some (c,P) => some ([p.block,a.block,r,w],c,P)
    | none => none
   | _,_ => none
  | _,_ => none
 | _ => none
def wBuf : SumO:=fnL fun args μ => wordX μ (fun _ us n vs m => some (kX (fun σ => [.chan (some (σ 3))]) (fun σ => [(2,.rov vs),(3,.word m (σ 2))]) 2 n us (gB vs m) (gB vs m).length,(us.length = n∧us.all isB = true∧vs.all isB = true∧vs.length = m)∧n + (gB vs m).length ≤ 70368744177664)) args
def wLst (es : List Ent) : SumO:=fnL fun args μ => wordX μ (fun _ us n vs m => some (kX (fun σ => .chan (some (σ 3)) :: [.func (.func 18) #[] #[]]) (fun σ => [(2,.rov (av es)),(3,.word es.length (σ 2))]) 2 n us (gL es) (gL es).length,(us.length = n∧us.all isB = true)∧n + (gL es).length ≤ 70368744177664)) args
def num37 : SumO:=fnL fun args μ => match args with
 | [.pointer (some p)] => match μ.get p.block with
  | some (.cells [.slice (some q) n _] _) => match μ.get q.block with
   | some (.cells us _) => some ([p.block,q.block],kN n us (fnvV us),(us.length = n∧us.all isB = true)∧n ≠ 0∧n ≤ 1099511627776)
   | _ => none
  | _ => none
 | _ => none
def s13 (es : List Ent) : Sm:=withS (withS (withS (withS (withS (withS (withS sm0 15 (wS gT)) 16 wBuf) 17 (wLst es)) 19 (wS gw4u)) 20 (wS gw4)) 21 (wS gw8)) 22 num37
theorem c13_came (bs : List Int) (es : List Ent) (nm : ByteArray) (x : Nat → Int) (h0 : Nat.le (1 + (4 + ByteArray.size nm)) 70368744177664) (h1 : List.length ([Value.int .u8 1] ++ (b4 (IntKind.wrap .i32 (↑(ByteArray.size nm) : Int)) ++ intList nm.data.toList)) = 1 + (4 + ByteArray.size nm)) (h2 : List.all ([Value.int .u8 1] ++ (b4 (IntKind.wrap .i32 (↑(ByteArray.size nm) : Int)) ++ intList nm.data.toList)) isB = true) (h3 : List.all (bv bs) isB = true) (h4 : List.length (bv bs) = List.length bs) (h5 : Nat.le (1 + (4 + ByteArray.size nm) + List.length (gB (bv bs) (List.length bs))) 70368744177664) (h6 : List.length ([Value.int .u8 1] ++ (b4 (IntKind.wrap .i32 (↑(ByteArray.size nm) : Int)) ++ intList nm.data.toList) ++ gB (bv bs) (List.length bs)) = 1 + (4 + ByteArray.size nm) + List.length (gB (bv bs) (List.length bs))) (h7 : List.all ([Value.int .u8 1] ++ (b4 (IntKind.wrap .i32 (↑(ByteArray.size nm) : Int)) ++ intList nm.data.toList) ++ gB (bv bs) (List.length bs)) isB = true) (h8 : Nat.le (1 + (4 + ByteArray.size nm) + List.length (gB (bv bs) (List.length bs)) + List.length (gL es)) 70368744177664) (h9 : List.length ([Value.int .u8 1] ++ (b4 (IntKind.wrap .i32 (↑(ByteArray.size nm) : Int)) ++ intList nm.data.toList) ++ gB (bv bs) (List.length bs) ++ gL es) = 1 + (4 + ByteArray.size nm) + List.length (gB (bv bs) (List.length bs)) + List.length (gL es)) (h10 : List.all ([Value.int .u8 1] ++ (b4 (IntKind.wrap .i32 (↑(ByteArray.size nm) : Int)) ++ intList nm.data.toList) ++ gB (bv bs) (List.length bs) ++ gL es) isB = true) (h11 : Nat.le (1 + (4 + ByteArray.size nm) + List.length (gB (bv bs) (List.length bs)) + List.length (gL es) + 4) 70368744177664) (h12 : List.length ([Value.int .u8 1] ++ (b4 (IntKind.wrap .i32 (↑(ByteArray.size nm) : Int)) ++ intList nm.data.toList) ++ gB (bv bs) (List.length bs) ++ gL es ++ b4 (x 0)) = 1 + (4 + ByteArray.size nm) + List.length (gB (bv bs) (List.length bs)) + List.length (gL es) + 4) (h13 : List.all ([Value.int .u8 1] ++ (b4 (IntKind.wrap .i32 (↑(ByteArray.size nm) : Int)) ++ intList nm.data.toList) ++ gB (bv bs) (List.length bs) ++ gL es ++ b4 (x 0)) isB = true) (h14 : Nat.le (1 + (4 + ByteArray.size nm) + List.length (gB (bv bs) (List.length bs)) + List.length (gL es) + 4 + 4) 70368744177664) (h15 : List.length ([Value.int .u8 1] ++ (b4 (IntKind.wrap .i32 (↑(ByteArray.size nm) : Int)) ++ intList nm.data.toList) ++ gB (bv bs) (List.length bs) ++ gL es ++ b4 (x 0) ++ b4 (x 1)) = 1 + (4 + ByteArray.size nm) + List.length (gB (bv bs) (List.length bs)) + List.length (gL es) + 4 + 4) (h16 : List.all ([Value.int .u8 1] ++ (b4 (IntKind.wrap .i32 (↑(ByteArray.size nm) : Int)) ++ intList nm.data.toList) ++ gB (bv bs) (List.length bs) ++ gL es ++ b4 (x 0) ++ b4 (x 1)) isB = true) (h17 : Nat.le (1 + (4 + ByteArray.size nm) + List.length (gB (bv bs) (List.length bs)) + List.length (gL es) + 4 + 4 + 4) 70368744177664) (h18 : List.length ([Value.int .u8 1] ++ (b4 (IntKind.wrap .i32 (↑(ByteArray.size nm) : Int)) ++ intList nm.data.toList) ++ gB (bv bs) (List.length bs) ++ gL es ++ b4 (x 0) ++ b4 (x 1) ++ b4 (x 2)) = 1 + (4 + ByteArray.size nm) + List.length (gB (bv bs) (List.length bs)) + List.length (gL es) + 4 + 4 + 4) (h19 : List.all ([Value.int .u8 1] ++ (b4 (IntKind.wrap .i32 (↑(ByteArray.size nm) : Int)) ++ intList nm.data.toList) ++ gB (bv bs) (List.length bs) ++ gL es ++ b4 (x 0) ++ b4 (x 1) ++ b4 (x 2)) isB = true) (h20 : Nat.le (1 + (4 + ByteArray.size nm) + List.length (gB (bv bs) (List.length bs)) + List.length (gL es) + 4 + 4 + 4 + 4) 70368744177664) (h21 : List.length ([Value.int .u8 1] ++ (b4 (IntKind.wrap .i32 (↑(ByteArray.size nm) : Int)) ++ intList nm.data.toList) ++ gB (bv bs) (List.length bs) ++ gL es ++ b4 (x 0) ++ b4 (x 1) ++ b4 (x 2) ++ b4 (x 3)) = 1 + (4 + ByteArray.size nm) + List.length (gB (bv bs) (List.length bs)) + List.length (gL es) + 4 + 4 + 4 + 4) (h22 : List.all ([Value.int .u8 1] ++ (b4 (IntKind.wrap .i32 (↑(ByteArray.size nm) : Int)) ++ intList nm.data.toList) ++ gB (bv bs) (List.length bs) ++ gL es ++ b4 (x 0) ++ b4 (x 1) ++ b4 (x 2) ++ b4 (x 3)) isB = true) (h23 : Nat.le (1 + (4 + ByteArray.size nm) + List.length (gB (bv bs) (List.length bs)) + List.length (gL es) + 4 + 4 + 4 + 4 + 4) 70368744177664) (h24 : List.length ([Value.int .u8 1] ++ (b4 (IntKind.wrap .i32 (↑(ByteArray.size nm) : Int)) ++ intList nm.data.toList) ++ gB (bv bs) (List.length bs) ++ gL es ++ b4 (x 0) ++ b4 (x 1) ++ b4 (x 2) ++ b4 (x 3) ++ b4 (x 4)) = 1 + (4 + ByteArray.size nm) + List.length (gB (bv bs) (List.length bs)) + List.length (gL es) + 4 + 4 + 4 + 4 + 4) (h25 : List.all ([Value.int .u8 1] ++ (b4 (IntKind.wrap .i32 (↑(ByteArray.size nm) : Int)) ++ intList nm.data.toList) ++ gB (bv bs) (List.length bs) ++ gL es ++ b4 (x 0) ++ b4 (x 1) ++ b4 (x 2) ++ b4 (x 3) ++ b4 (x 4)) isB = true) (h26 : Nat.le (1 + (4 + ByteArray.size nm) + List.length (gB (bv bs) (List.length bs)) + List.length (gL es) + 4 + 4 + 4 + 4 + 4 + 4) 70368744177664) (h27 : List.length ([Value.int .u8 1] ++ (b4 (IntKind.wrap .i32 (↑(ByteArray.size nm) : Int)) ++ intList nm.data.toList) ++ gB (bv bs) (List.length bs) ++ gL es ++ b4 (x 0) ++ b4 (x 1) ++ b4 (x 2) ++ b4 (x 3) ++ b4 (x 4) ++ b4 (x 5)) = 1 + (4 + ByteArray.size nm) + List.length (gB (bv bs) (List.length bs)) + List.length (gL es) + 4 + 4 + 4 + 4 + 4 + 4) (h28 : List.all ([Value.int .u8 1] ++ (b4 (IntKind.wrap .i32 (↑(ByteArray.size nm) : Int)) ++ intList nm.data.toList) ++ gB (bv bs) (List.length bs) ++ gL es ++ b4 (x 0) ++ b4 (x 1) ++ b4 (x 2) ++ b4 (x 3) ++ b4 (x 4) ++ b4 (x 5)) isB = true) (h29 : Nat.le (1 + (4 + ByteArray.size nm) + List.length (gB (bv bs) (List.length bs)) + List.length (gL es) + 4 + 4 + 4 + 4 + 4 + 4 + 4) 70368744177664) (h30 : List.length ([Value.int .u8 1] ++ (b4 (IntKind.wrap .i32 (↑(ByteArray.size nm) : Int)) ++ intList nm.data.toList) ++ gB (bv bs) (List.length bs) ++ gL es ++ b4 (x 0) ++ b4 (x 1) ++ b4 (x 2) ++ b4 (x 3) ++ b4 (x 4) ++ b4 (x 5) ++ b4 (x 6)) = 1 + (4 + ByteArray.size nm) + List.length (gB (bv bs) (List.length bs)) + List.length (gL es) + 4 + 4 + 4 + 4 + 4 + 4 + 4) (h31 : List.all ([Value.int .u8 1] ++ (b4 (IntKind.wrap .i32 (↑(ByteArray.size nm) : Int)) ++ intList nm.data.toList) ++ gB (bv bs) (List.length bs) ++ gL es ++ b4 (x 0) ++ b4 (x 1) ++ b4 (x 2) ++ b4 (x 3) ++ b4 (x 4) ++ b4 (x 5) ++ b4 (x 6)) isB = true) (h32 : Nat.le (1 + (4 + ByteArray.size nm) + List.length (gB (bv bs) (List.length bs)) + List.length (gL es) + 4 + 4 + 4 + 4 + 4 + 4 + 4 + 4) 70368744177664) (h33 : List.length ([Value.int .u8 1] ++ (b4 (IntKind.wrap .i32 (↑(ByteArray.size nm) : Int)) ++ intList nm.data.toList) ++ gB (bv bs) (List.length bs) ++ gL es ++ b4 (x 0) ++ b4 (x 1) ++ b4 (x 2) ++ b4 (x 3) ++ b4 (x 4) ++ b4 (x 5) ++ b4 (x 6) ++ b4 (x 7)) = 1 + (4 + ByteArray.size nm) + List.length (gB (bv bs) (List.length bs)) + List.length (gL es) + 4 + 4 + 4 + 4 + 4 + 4 + 4 + 4) (h34 : List.all ([Value.int .u8 1] ++ (b4 (IntKind.wrap .i32 (↑(ByteArray.size nm) : Int)) ++ intList nm.data.toList) ++ gB (bv bs) (List.length bs) ++ gL es ++ b4 (x 0) ++ b4 (x 1) ++ b4 (x 2) ++ b4 (x 3) ++ b4 (x 4) ++ b4 (x 5) ++ b4 (x 6) ++ b4 (x 7)) isB = true) (h35 : Nat.le (1 + (4 + ByteArray.size nm) + List.length (gB (bv bs) (List.length bs)) + List.length (gL es) + 4 + 4 + 4 + 4 + 4 + 4 + 4 + 4 + 4) 70368744177664) (h36 : List.length ([Value.int .u8 1] ++ (b4 (IntKind.wrap .i32 (↑(ByteArray.size nm) : Int)) ++ intList nm.data.toList) ++ gB (bv bs) (List.length bs) ++ gL es ++ b4 (x 0) ++ b4 (x 1) ++ b4 (x 2) ++ b4 (x 3) ++ b4 (x 4) ++ b4 (x 5) ++ b4 (x 6) ++ b4 (x 7) ++ b4 (x 8)) = 1 + (4 + ByteArray.size nm) + List.length (gB (bv bs) (List.length bs)) + List.length (gL es) + 4 + 4 + 4 + 4 + 4 + 4 + 4 + 4 + 4) (h37 : List.all ([Value.int .u8 1] ++ (b4 (IntKind.wrap .i32 (↑(ByteArray.size nm) : Int)) ++ intList nm.data.toList) ++ gB (bv bs) (List.length bs) ++ gL es ++ b4 (x 0) ++ b4 (x 1) ++ b4 (x 2) ++ b4 (x 3) ++ b4 (x 4) ++ b4 (x 5) ++ b4 (x 6) ++ b4 (x 7) ++ b4 (x 8)) isB = true) (h38 : Nat.le (1 + (4 + ByteArray.size nm) + List.length (gB (bv bs) (List.length bs)) + List.length (gL es) + 4 + 4 + 4 + 4 + 4 + 4 + 4 + 4 + 4 + 8) 70368744177664) (h39 : List.length ([Value.int .u8 1] ++ (b4 (IntKind.wrap .i32 (↑(ByteArray.size nm) : Int)) ++ intList nm.data.toList) ++ gB (bv bs) (List.length bs) ++ gL es ++ b4 (x 0) ++ b4 (x 1) ++ b4 (x 2) ++ b4 (x 3) ++ b4 (x 4) ++ b4 (x 5) ++ b4 (x 6) ++ b4 (x 7) ++ b4 (x 8) ++ b8 (x 9)) = 1 + (4 + ByteArray.size nm) + List.length (gB (bv bs) (List.length bs)) + List.length (gL es) + 4 + 4 + 4 + 4 + 4 + 4 + 4 + 4 + 4 + 8) (h40 : List.all ([Value.int .u8 1] ++ (b4 (IntKind.wrap .i32 (↑(ByteArray.size nm) : Int)) ++ intList nm.data.toList) ++ gB (bv bs) (List.length bs) ++ gL es ++ b4 (x 0) ++ b4 (x 1) ++ b4 (x 2) ++ b4 (x 3) ++ b4 (x 4) ++ b4 (x 5) ++ b4 (x 6) ++ b4 (x 7) ++ b4 (x 8) ++ b8 (x 9)) isB = true) (h41 : Nat.le (1 + (4 + ByteArray.size nm) + List.length (gB (bv bs) (List.length bs)) + List.length (gL es) + 4 + 4 + 4 + 4 + 4 + 4 + 4 + 4 + 4 + 8 + 4) 70368744177664) (h42 : List.length ([Value.int .u8 1] ++ (b4 (IntKind.wrap .i32 (↑(ByteArray.size nm) : Int)) ++ intList nm.data.toList) ++ gB (bv bs) (List.length bs) ++ gL es ++ b4 (x 0) ++ b4 (x 1) ++ b4 (x 2) ++ b4 (x 3) ++ b4 (x 4) ++ b4 (x 5) ++ b4 (x 6) ++ b4 (x 7) ++ b4 (x 8) ++ b8 (x 9) ++ b4 (x 12)) = 1 + (4 + ByteArray.size nm) + List.length (gB (bv bs) (List.length bs)) + List.length (gL es) + 4 + 4 + 4 + 4 + 4 + 4 + 4 + 4 + 4 + 8 + 4) (h43 : List.all ([Value.int .u8 1] ++ (b4 (IntKind.wrap .i32 (↑(ByteArray.size nm) : Int)) ++ intList nm.data.toList) ++ gB (bv bs) (List.length bs) ++ gL es ++ b4 (x 0) ++ b4 (x 1) ++ b4 (x 2) ++ b4 (x 3) ++ b4 (x 4) ++ b4 (x 5) ++ b4 (x 6) ++ b4 (x 7) ++ b4 (x 8) ++ b8 (x 9) ++ b4 (x 12)) isB = true) (h44 : 1 + (4 + ByteArray.size nm) + List.length (gB (bv bs) (List.length bs)) + List.length (gL es) + 4 + 4 + 4 + 4 + 4 + 4 + 4 + 4 + 4 + 8 + 4 = 0 → False) (h45 : Nat.le (1 + (4 + ByteArray.size nm) + List.length (gB (bv bs) (List.length bs)) + List.length (gL es) + 4 + 4 + 4 + 4 + 4 + 4 + 4 + 4 + 4 + 8 + 4) 1099511627776) :
  RanC (runO Tryz.prog E1 (s13 es) noRun 100 6 [Value.agg (Array.mk (nodeV nm (Value.chan (some 1)) (Value.chan (some 3)) x))] (mkHp 4 (wordsOs [Wd.v (bv bs) (List.length bs),Wd.v (av es) (List.length es)] 0 fun n => n)) [] True) (.returned (Value.int .u64 (fnvV ([Value.int .u8 1] ++ (b4 (IntKind.wrap .i32 (↑(ByteArray.size nm) : Int)) ++ intList nm.data.toList) ++ gB (bv bs) (List.length bs) ++ gL es ++ b4 (x 0) ++ b4 (x 1) ++ b4 (x 2) ++ b4 (x 3) ++ b4 (x 4) ++ b4 (x 5) ++ b4 (x 6) ++ b4 (x 7) ++ b4 (x 8) ++ b8 (x 9) ++ b4 (x 12))))) [(0,AObj.rov (bv bs)),(1,AObj.word (List.length bs) 0),(2,AObj.rov (av es)),(3,AObj.word (List.length es) 2),(4,AObj.cells [Value.string nm,Value.chan (some 1),Value.chan (some 3),Value.int .u32 (x 0),Value.int .u32 (x 1),Value.int .u32 (x 2),Value.int .u32 (x 3),Value.int .u32 (x 4),Value.int .u32 (x 5),Value.int .i32 (x 6),Value.int .i32 (x 7),Value.int .i32 (x 8),Value.int .i64 (x 9),Value.int .i64 (x 10),Value.int .i64 (x 11),Value.int .i32 (x 12)] 0),(5,AObj.cells [Value.slice (some ⟨24,0,none⟩) (1 + (4 + ByteArray.size nm) + List.length (gB (bv bs) (List.length bs)) + List.length (gL es) + 4 + 4 + 4 + 4 + 4 + 4 + 4 + 4 + 4 + 8 + 4) (2 * (1 + (4 + ByteArray.size nm) + List.length (gB (bv bs) (List.length bs)) + List.length (gL es) + 4 + 4 + 4 + 4 + 4 + 4 + 4 + 4 + 4 + 8 + 4) + 1)] 0),(6,AObj.cells [Value.int .u8 1] 0),(7,AObj.dead),(8,AObj.dead),(9,AObj.dead),(10,AObj.dead),(11,AObj.cells [Value.int .u32 (x 0),Value.int .u32 (x 1)] 0),(12,AObj.dead),(13,AObj.dead),(14,AObj.cells [Value.int .u32 (x 2),Value.int .u32 (x 3)] 0),(15,AObj.dead),(16,AObj.dead),(17,AObj.cells [Value.int .u32 (x 4),Value.int .u32 (x 5)] 0),(18,AObj.dead),(19,AObj.dead),(20,AObj.dead),(21,AObj.dead),(22,AObj.dead),(23,AObj.dead),(24,AObj.cells ([Value.int .u8 1] ++ (b4 (IntKind.wrap .i32 (↑(ByteArray.size nm) : Int)) ++ intList nm.data.toList) ++ gB (bv bs) (List.length bs) ++ gL es ++ b4 (x 0) ++ b4 (x 1) ++ b4 (x 2) ++ b4 (x 3) ++ b4 (x 4) ++ b4 (x 5) ++ b4 (x 6) ++ b4 (x 7) ++ b4 (x 8) ++ b8 (x 9) ++ b4 (x 12)) 1)] 25 :=
 cameCF_of (O:=let x0:=gB (bv bs) (List.length bs);let x17:=true = true∧true = true;let x1:=x17∧Value.pointer (some (Addr.mk 5 0 none)) = Value.pointer (some (Addr.mk 5 0 none));let x2:=1 + (4 + ByteArray.size nm) + List.length x0 + List.length (gL es) + 4 + 4 + 4 + 4 + 4 + 4 + 4 + 4 + 4 + 8 + 4;let x3:=1 + (4 + ByteArray.size nm) + List.length x0 + List.length (gL es) + 4 + 4 + 4 + 4 + 4 + 4 + 4 + 4 + 4 + 8;let x4:=1 + (4 + ByteArray.size nm) + List.length x0 + List.length (gL es) + 4 + 4 + 4 + 4 + 4 + 4 + 4 + 4 + 4;let x5:=1 + (4 + ByteArray.size nm) + List.length x0 + List.length (gL es) + 4 + 4 + 4 + 4 + 4 + 4 + 4 + 4;let x6:=1 + (4 + ByteArray.size nm) + List.length x0 + List.length (gL es) + 4 + 4 + 4 + 4 + 4 + 4 + 4;let x7:=1 + (4 + ByteArray.size nm) + List.length x0 + List.length (gL es) + 4 + 4 + 4 + 4 + 4 + 4;let x8:=1 + (4 + ByteArray.size nm) + List.length x0 + List.length (gL es) + 4 + 4 + 4 + 4 + 4;let x9:=1 + (4 + ByteArray.size nm) + List.length x0 + List.length (gL es) + 4 + 4 + 4 + 4;let x10:=1 + (4 + ByteArray.size nm) + List.length x0 + List.length (gL es) + 4 + 4 + 4;let x11:=1 + (4 + ByteArray.size nm) + List.length x0 + List.length (gL es) + 4 + 4;let x12:=1 + (4 + ByteArray.size nm) + List.length x0 + List.length (gL es) + 4;let x13:=1 + (4 + ByteArray.size nm) + List.length x0 + List.length (gL es);let x14:=1 + (4 + ByteArray.size nm) + List.length x0;let x15:=1 + (4 + ByteArray.size nm);let x16:=x17∧Value.slice none 0 0 = Value.slice none 0 0;let x18:=some (Addr.mk 10 0 none);let x19:=some (Addr.mk 12 0 none);let x20:=some (Addr.mk 13 0 none);let x21:=some (Addr.mk 15 0 none);let x22:=some (Addr.mk 16 0 none);let x23:=some (Addr.mk 18 0 none);let x24:=some (Addr.mk 19 0 none);let x25:=some (Addr.mk 20 0 none);let x26:=some (Addr.mk 21 0 none);let x27:=some (Addr.mk 22 0 none);let x28:=some (Addr.mk 23 0 none);let x29:=some (Addr.mk 24 0 none);(((((((((((((((True∧(x1∧x1∧x1∧True)∧(x1∧x1∧True)∧(x1∧x1∧True)∧(x1∧x1∧True)∧(x16∧x16∧True)∧True∧True∧True∧True∧True∧True∧True∧True∧True∧True∧True)∧(1 = 1∧true = true∧Nat.le x15 70368744177664)∧([Value.pointer (some (Addr.mk 5 0 none)),Value.string nm] = [Value.pointer (some (Addr.mk 5 0 none)),Value.string nm]∧true = true∧true = true∧true = true)∧([Value.slice (some (Addr.mk 7 0 none)) 1 3] = [Value.slice (some (Addr.mk 7 0 none)) 1 3]∧0 = 0)∧([Value.int .u8 1] = [Value.int .u8 1]∧1 = 1)∧True)∧((List.length ([Value.int .u8 1] ++ (b4 (IntKind.wrap .i32 (↑(ByteArray.size nm) : Int)) ++ intList nm.data.toList)) = 1 + (4 + ByteArray.size nm)∧List.all ([Value.int .u8 1] ++ (b4 (IntKind.wrap .i32 (↑(ByteArray.size nm) : Int)) ++ intList nm.data.toList)) isB = true∧List.all (bv bs) isB = true∧List.length (bv bs) = List.length bs)∧Nat.le x14 70368744177664)∧([Value.pointer (some (Addr.mk 5 0 none)),Value.chan (some 1)] = [Value.pointer (some (Addr.mk 5 0 none)),Value.chan (some 1)]∧true = true∧true = true∧true = true)∧([Value.slice (some (Addr.mk 8 0 none)) x15 (2 * x15 + 1)] = [Value.slice (some (Addr.mk 8 0 none)) x15 (2 * x15 + 1)]∧0 = 0)∧([Value.int .u8 1] ++ (b4 (IntKind.wrap .i32 (↑(ByteArray.size nm) : Int)) ++ intList nm.data.toList) = [Value.int .u8 1] ++ (b4 (IntKind.wrap .i32 (↑(ByteArray.size nm) : Int)) ++ intList nm.data.toList)∧1 = 1)∧bv bs = bv bs∧(List.length bs = List.length bs∧0 = 0)∧True)∧((List.length ([Value.int .u8 1] ++ (b4 (IntKind.wrap .i32 (↑(ByteArray.size nm) : Int)) ++ intList nm.data.toList) ++ gB (bv bs) (List.length bs)) = 1 + (4 + ByteArray.size nm) + List.length x0∧List.all ([Value.int .u8 1] ++ (b4 (IntKind.wrap .i32 (↑(ByteArray.size nm) : Int)) ++ intList nm.data.toList) ++ gB (bv bs) (List.length bs)) isB = true)∧Nat.le x13 70368744177664)∧([Value.pointer (some (Addr.mk 5 0 none)),Value.chan (some 3),Value.func (Fn.func 18) (Array.mk []) (Array.mk [])] = [Value.pointer (some (Addr.mk 5 0 none)),Value.chan (some 3),Value.func (Fn.func 18) (Array.mk []) (Array.mk [])]∧true = true∧true = true∧true = true)∧([Value.slice (some (Addr.mk 9 0 none)) x14 (2 * x14 + 1)] = [Value.slice (some (Addr.mk 9 0 none)) x14 (2 * x14 + 1)]∧0 = 0)∧([Value.int .u8 1] ++ (b4 (IntKind.wrap .i32 (↑(ByteArray.size nm) : Int)) ++ intList nm.data.toList) ++ gB (bv bs) (List.length bs) = [Value.int .u8 1] ++ (b4 (IntKind.wrap .i32 (↑(ByteArray.size nm) : Int)) ++ intList nm.data.toList) ++ gB (bv bs) (List.length bs)∧1 = 1)∧av es = av es∧(List.length es = List.length es∧2 = 2)∧True)∧(List.length ([Value.int .u8 1] ++ (b4 (IntKind.wrap .i32 (↑(ByteArray.size nm) : Int)) ++ intList nm.data.toList) ++ gB (bv bs) (List.length bs) ++ gL es) = 1 + (4 + ByteArray.size nm) + List.length x0 + List.length (gL es)∧List.all ([Value.int .u8 1] ++ (b4 (IntKind.wrap .i32 (↑(ByteArray.size nm) : Int)) ++ intList nm.data.toList) ++ gB (bv bs) (List.length bs) ++ gL es) isB = true∧Nat.le x12 70368744177664)∧([Value.pointer (some (Addr.mk 5 0 none)),Value.int .u32 (x 0)] = [Value.pointer (some (Addr.mk 5 0 none)),Value.int .u32 (x 0)]∧true = true∧true = true∧true = true)∧([Value.slice x18 x13 (2 * x13 + 1)] = [Value.slice x18 x13 (2 * x13 + 1)]∧0 = 0)∧([Value.int .u8 1] ++ (b4 (IntKind.wrap .i32 (↑(ByteArray.size nm) : Int)) ++ intList nm.data.toList) ++ gB (bv bs) (List.length bs) ++ gL es = [Value.int .u8 1] ++ (b4 (IntKind.wrap .i32 (↑(ByteArray.size nm) : Int)) ++ intList nm.data.toList) ++ gB (bv bs) (List.length bs) ++ gL es∧1 = 1)∧True)∧(List.length ([Value.int .u8 1] ++ (b4 (IntKind.wrap .i32 (↑(ByteArray.size nm) : Int)) ++ intList nm.data.toList) ++ gB (bv bs) (List.length bs) ++ gL es ++ b4 (x 0)) = 1 + (4 + ByteArray.size nm) + List.length x0 + List.length (gL es) + 4∧List.all ([Value.int .u8 1] ++ (b4 (IntKind.wrap .i32 (↑(ByteArray.size nm) : Int)) ++ intList nm.data.toList) ++ gB (bv bs) (List.length bs) ++ gL es ++ b4 (x 0)) isB = true∧Nat.le x11 70368744177664)∧([Value.pointer (some (Addr.mk 5 0 none)),Value.int .u32 (x 1)] = [Value.pointer (some (Addr.mk 5 0 none)),Value.int .u32 (x 1)]∧true = true∧true = true∧true = true)∧([Value.slice x19 x12 (2 * x12 + 1)] = [Value.slice x19 x12 (2 * x12 + 1)]∧0 = 0)∧([Value.int .u8 1] ++ (b4 (IntKind.wrap .i32 (↑(ByteArray.size nm) : Int)) ++ intList nm.data.toList) ++ gB (bv bs) (List.length bs) ++ gL es ++ b4 (x 0) = [Value.int .u8 1] ++ (b4 (IntKind.wrap .i32 (↑(ByteArray.size nm) : Int)) ++ intList nm.data.toList) ++ gB (bv bs) (List.length bs) ++ gL es ++ b4 (x 0)∧1 = 1)∧True)∧(List.length ([Value.int .u8 1] ++ (b4 (IntKind.wrap .i32 (↑(ByteArray.size nm) : Int)) ++ intList nm.data.toList) ++ gB (bv bs) (List.length bs) ++ gL es ++ b4 (x 0) ++ b4 (x 1)) = 1 + (4 + ByteArray.size nm) + List.length x0 + List.length (gL es) + 4 + 4∧List.all ([Value.int .u8 1] ++ (b4 (IntKind.wrap .i32 (↑(ByteArray.size nm) : Int)) ++ intList nm.data.toList) ++ gB (bv bs) (List.length bs) ++ gL es ++ b4 (x 0) ++ b4 (x 1)) isB = true∧Nat.le x10 70368744177664)∧([Value.pointer (some (Addr.mk 5 0 none)),Value.int .u32 (x 2)] = [Value.pointer (some (Addr.mk 5 0 none)),Value.int .u32 (x 2)]∧true = true∧true = true∧true = true)∧([Value.slice x20 x11 (2 * x11 + 1)] = [Value.slice x20 x11 (2 * x11 + 1)]∧0 = 0)∧([Value.int .u8 1] ++ (b4 (IntKind.wrap .i32 (↑(ByteArray.size nm) : Int)) ++ intList nm.data.toList) ++ gB (bv bs) (List.length bs) ++ gL es ++ b4 (x 0) ++ b4 (x 1) = [Value.int .u8 1] ++ (b4 (IntKind.wrap .i32 (↑(ByteArray.size nm) : Int)) ++ intList nm.data.toList) ++ gB (bv bs) (List.length bs) ++ gL es ++ b4 (x 0) ++ b4 (x 1)∧1 = 1)∧True)∧(List.length ([Value.int .u8 1] ++ (b4 (IntKind.wrap .i32 (↑(ByteArray.size nm) : Int)) ++ intList nm.data.toList) ++ gB (bv bs) (List.length bs) ++ gL es ++ b4 (x 0) ++ b4 (x 1) ++ b4 (x 2)) = 1 + (4 + ByteArray.size nm) + List.length x0 + List.length (gL es) + 4 + 4 + 4∧List.all ([Value.int .u8 1] ++ (b4 (IntKind.wrap .i32 (↑(ByteArray.size nm) : Int)) ++ intList nm.data.toList) ++ gB (bv bs) (List.length bs) ++ gL es ++ b4 (x 0) ++ b4 (x 1) ++ b4 (x 2)) isB = true∧Nat.le x9 70368744177664)∧([Value.pointer (some (Addr.mk 5 0 none)),Value.int .u32 (x 3)] = [Value.pointer (some (Addr.mk 5 0 none)),Value.int .u32 (x 3)]∧true = true∧true = true∧true = true)∧([Value.slice x21 x10 (2 * x10 + 1)] = [Value.slice x21 x10 (2 * x10 + 1)]∧0 = 0)∧([Value.int .u8 1] ++ (b4 (IntKind.wrap .i32 (↑(ByteArray.size nm) : Int)) ++ intList nm.data.toList) ++ gB (bv bs) (List.length bs) ++ gL es ++ b4 (x 0) ++ b4 (x 1) ++ b4 (x 2) = [Value.int .u8 1] ++ (b4 (IntKind.wrap .i32 (↑(ByteArray.size nm) : Int)) ++ intList nm.data.toList) ++ gB (bv bs) (List.length bs) ++ gL es ++ b4 (x 0) ++ b4 (x 1) ++ b4 (x 2)∧1 = 1)∧True)∧(List.length ([Value.int .u8 1] ++ (b4 (IntKind.wrap .i32 (↑(ByteArray.size nm) : Int)) ++ intList nm.data.toList) ++ gB (bv bs) (List.length bs) ++ gL es ++ b4 (x 0) ++ b4 (x 1) ++ b4 (x 2) ++ b4 (x 3)) = 1 + (4 + ByteArray.size nm) + List.length x0 + List.length (gL es) + 4 + 4 + 4 + 4∧List.all ([Value.int .u8 1] ++ (b4 (IntKind.wrap .i32 (↑(ByteArray.size nm) : Int)) ++ intList nm.data.toList) ++ gB (bv bs) (List.length bs) ++ gL es ++ b4 (x 0) ++ b4 (x 1) ++ b4 (x 2) ++ b4 (x 3)) isB = true∧Nat.le x8 70368744177664)∧([Value.pointer (some (Addr.mk 5 0 none)),Value.int .u32 (x 4)] = [Value.pointer (some (Addr.mk 5 0 none)),Value.int .u32 (x 4)]∧true = true∧true = true∧true = true)∧([Value.slice x22 x9 (2 * x9 + 1)] = [Value.slice x22 x9 (2 * x9 + 1)]∧0 = 0)∧([Value.int .u8 1] ++ (b4 (IntKind.wrap .i32 (↑(ByteArray.size nm) : Int)) ++ intList nm.data.toList) ++ gB (bv bs) (List.length bs) ++ gL es ++ b4 (x 0) ++ b4 (x 1) ++ b4 (x 2) ++ b4 (x 3) = [Value.int .u8 1] ++ (b4 (IntKind.wrap .i32 (↑(ByteArray.size nm) : Int)) ++ intList nm.data.toList) ++ gB (bv bs) (List.length bs) ++ gL es ++ b4 (x 0) ++ b4 (x 1) ++ b4 (x 2) ++ b4 (x 3)∧1 = 1)∧True)∧(List.length ([Value.int .u8 1] ++ (b4 (IntKind.wrap .i32 (↑(ByteArray.size nm) : Int)) ++ intList nm.data.toList) ++ gB (bv bs) (List.length bs) ++ gL es ++ b4 (x 0) ++ b4 (x 1) ++ b4 (x 2) ++ b4 (x 3) ++ b4 (x 4)) = 1 + (4 + ByteArray.size nm) + List.length x0 + List.length (gL es) + 4 + 4 + 4 + 4 + 4∧List.all ([Value.int .u8 1] ++ (b4 (IntKind.wrap .i32 (↑(ByteArray.size nm) : Int)) ++ intList nm.data.toList) ++ gB (bv bs) (List.length bs) ++ gL es ++ b4 (x 0) ++ b4 (x 1) ++ b4 (x 2) ++ b4 (x 3) ++ b4 (x 4)) isB = true∧Nat.le x7 70368744177664)∧([Value.pointer (some (Addr.mk 5 0 none)),Value.int .u32 (x 5)] = [Value.pointer (some (Addr.mk 5 0 none)),Value.int .u32 (x 5)]∧true = true∧true = true∧true = true)∧([Value.slice x23 x8 (2 * x8 + 1)] = [Value.slice x23 x8 (2 * x8 + 1)]∧0 = 0)∧([Value.int .u8 1] ++ (b4 (IntKind.wrap .i32 (↑(ByteArray.size nm) : Int)) ++ intList nm.data.toList) ++ gB (bv bs) (List.length bs) ++ gL es ++ b4 (x 0) ++ b4 (x 1) ++ b4 (x 2) ++ b4 (x 3) ++ b4 (x 4) = [Value.int .u8 1] ++ (b4 (IntKind.wrap .i32 (↑(ByteArray.size nm) : Int)) ++ intList nm.data.toList) ++ gB (bv bs) (List.length bs) ++ gL es ++ b4 (x 0) ++ b4 (x 1) ++ b4 (x 2) ++ b4 (x 3) ++ b4 (x 4)∧1 = 1)∧True)∧(List.length ([Value.int .u8 1] ++ (b4 (IntKind.wrap .i32 (↑(ByteArray.size nm) : Int)) ++ intList nm.data.toList) ++ gB (bv bs) (List.length bs) ++ gL es ++ b4 (x 0) ++ b4 (x 1) ++ b4 (x 2) ++ b4 (x 3) ++ b4 (x 4) ++ b4 (x 5)) = 1 + (4 + ByteArray.size nm) + List.length x0 + List.length (gL es) + 4 + 4 + 4 + 4 + 4 + 4∧List.all ([Value.int .u8 1] ++ (b4 (IntKind.wrap .i32 (↑(ByteArray.size nm) : Int)) ++ intList nm.data.toList) ++ gB (bv bs) (List.length bs) ++ gL es ++ b4 (x 0) ++ b4 (x 1) ++ b4 (x 2) ++ b4 (x 3) ++ b4 (x 4) ++ b4 (x 5)) isB = true∧Nat.le x6 70368744177664)∧([Value.pointer (some (Addr.mk 5 0 none)),Value.int .i32 (x 6)] = [Value.pointer (some (Addr.mk 5 0 none)),Value.int .i32 (x 6)]∧true = true∧true = true∧true = true)∧([Value.slice x24 x7 (2 * x7 + 1)] = [Value.slice x24 x7 (2 * x7 + 1)]∧0 = 0)∧([Value.int .u8 1] ++ (b4 (IntKind.wrap .i32 (↑(ByteArray.size nm) : Int)) ++ intList nm.data.toList) ++ gB (bv bs) (List.length bs) ++ gL es ++ b4 (x 0) ++ b4 (x 1) ++ b4 (x 2) ++ b4 (x 3) ++ b4 (x 4) ++ b4 (x 5) = [Value.int .u8 1] ++ (b4 (IntKind.wrap .i32 (↑(ByteArray.size nm) : Int)) ++ intList nm.data.toList) ++ gB (bv bs) (List.length bs) ++ gL es ++ b4 (x 0) ++ b4 (x 1) ++ b4 (x 2) ++ b4 (x 3) ++ b4 (x 4) ++ b4 (x 5)∧1 = 1)∧True)∧(List.length ([Value.int .u8 1] ++ (b4 (IntKind.wrap .i32 (↑(ByteArray.size nm) : Int)) ++ intList nm.data.toList) ++ gB (bv bs) (List.length bs) ++ gL es ++ b4 (x 0) ++ b4 (x 1) ++ b4 (x 2) ++ b4 (x 3) ++ b4 (x 4) ++ b4 (x 5) ++ b4 (x 6)) = 1 + (4 + ByteArray.size nm) + List.length x0 + List.length (gL es) + 4 + 4 + 4 + 4 + 4 + 4 + 4∧List.all ([Value.int .u8 1] ++ (b4 (IntKind.wrap .i32 (↑(ByteArray.size nm) : Int)) ++ intList nm.data.toList) ++ gB (bv bs) (List.length bs) ++ gL es ++ b4 (x 0) ++ b4 (x 1) ++ b4 (x 2) ++ b4 (x 3) ++ b4 (x 4) ++ b4 (x 5) ++ b4 (x 6)) isB = true∧Nat.le x5 70368744177664)∧([Value.pointer (some (Addr.mk 5 0 none)),Value.int .i32 (x 7)] = [Value.pointer (some (Addr.mk 5 0 none)),Value.int .i32 (x 7)]∧true = true∧true = true∧true = true)∧([Value.slice x25 x6 (2 * x6 + 1)] = [Value.slice x25 x6 (2 * x6 + 1)]∧0 = 0)∧([Value.int .u8 1] ++ (b4 (IntKind.wrap .i32 (↑(ByteArray.size nm) : Int)) ++ intList nm.data.toList) ++ gB (bv bs) (List.length bs) ++ gL es ++ b4 (x 0) ++ b4 (x 1) ++ b4 (x 2) ++ b4 (x 3) ++ b4 (x 4) ++ b4 (x 5) ++ b4 (x 6) = [Value.int .u8 1] ++ (b4 (IntKind.wrap .i32 (↑(ByteArray.size nm) : Int)) ++ intList nm.data.toList) ++ gB (bv bs) (List.length bs) ++ gL es ++ b4 (x 0) ++ b4 (x 1) ++ b4 (x 2) ++ b4 (x 3) ++ b4 (x 4) ++ b4 (x 5) ++ b4 (x 6)∧1 = 1)∧True)∧(List.length ([Value.int .u8 1] ++ (b4 (IntKind.wrap .i32 (↑(ByteArray.size nm) : Int)) ++ intList nm.data.toList) ++ gB (bv bs) (List.length bs) ++ gL es ++ b4 (x 0) ++ b4 (x 1) ++ b4 (x 2) ++ b4 (x 3) ++ b4 (x 4) ++ b4 (x 5) ++ b4 (x 6) ++ b4 (x 7)) = 1 + (4 + ByteArray.size nm) + List.length x0 + List.length (gL es) + 4 + 4 + 4 + 4 + 4 + 4 + 4 + 4∧List.all ([Value.int .u8 1] ++ (b4 (IntKind.wrap .i32 (↑(ByteArray.size nm) : Int)) ++ intList nm.data.toList) ++ gB (bv bs) (List.length bs) ++ gL es ++ b4 (x 0) ++ b4 (x 1) ++ b4 (x 2) ++ b4 (x 3) ++ b4 (x 4) ++ b4 (x 5) ++ b4 (x 6) ++ b4 (x 7)) isB = true∧Nat.le x4 70368744177664)∧([Value.pointer (some (Addr.mk 5 0 none)),Value.int .i32 (x 8)] = [Value.pointer (some (Addr.mk 5 0 none)),Value.int .i32 (x 8)]∧true = true∧true = true∧true = true)∧([Value.slice x26 x5 (2 * x5 + 1)] = [Value.slice x26 x5 (2 * x5 + 1)]∧0 = 0)∧([Value.int .u8 1] ++ (b4 (IntKind.wrap .i32 (↑(ByteArray.size nm) : Int)) ++ intList nm.data.toList) ++ gB (bv bs) (List.length bs) ++ gL es ++ b4 (x 0) ++ b4 (x 1) ++ b4 (x 2) ++ b4 (x 3) ++ b4 (x 4) ++ b4 (x 5) ++ b4 (x 6) ++ b4 (x 7) = [Value.int .u8 1] ++ (b4 (IntKind.wrap .i32 (↑(ByteArray.size nm) : Int)) ++ intList nm.data.toList) ++ gB (bv bs) (List.length bs) ++ gL es ++ b4 (x 0) ++ b4 (x 1) ++ b4 (x 2) ++ b4 (x 3) ++ b4 (x 4) ++ b4 (x 5) ++ b4 (x 6) ++ b4 (x 7)∧1 = 1)∧True)∧(List.length ([Value.int .u8 1] ++ (b4 (IntKind.wrap .i32 (↑(ByteArray.size nm) : Int)) ++ intList nm.data.toList) ++ gB (bv bs) (List.length bs) ++ gL es ++ b4 (x 0) ++ b4 (x 1) ++ b4 (x 2) ++ b4 (x 3) ++ b4 (x 4) ++ b4 (x 5) ++ b4 (x 6) ++ b4 (x 7) ++ b4 (x 8)) = 1 + (4 + ByteArray.size nm) + List.length x0 + List.length (gL es) + 4 + 4 + 4 + 4 + 4 + 4 + 4 + 4 + 4∧List.all ([Value.int .u8 1] ++ (b4 (IntKind.wrap .i32 (↑(ByteArray.size nm) : Int)) ++ intList nm.data.toList) ++ gB (bv bs) (List.length bs) ++ gL es ++ b4 (x 0) ++ b4 (x 1) ++ b4 (x 2) ++ b4 (x 3) ++ b4 (x 4) ++ b4 (x 5) ++ b4 (x 6) ++ b4 (x 7) ++ b4 (x 8)) isB = true∧Nat.le x3 70368744177664)∧([Value.pointer (some (Addr.mk 5 0 none)),Value.int .i64 (x 9)] = [Value.pointer (some (Addr.mk 5 0 none)),Value.int .i64 (x 9)]∧true = true∧true = true∧true = true)∧([Value.slice x27 x4 (2 * x4 + 1)] = [Value.slice x27 x4 (2 * x4 + 1)]∧0 = 0)∧([Value.int .u8 1] ++ (b4 (IntKind.wrap .i32 (↑(ByteArray.size nm) : Int)) ++ intList nm.data.toList) ++ gB (bv bs) (List.length bs) ++ gL es ++ b4 (x 0) ++ b4 (x 1) ++ b4 (x 2) ++ b4 (x 3) ++ b4 (x 4) ++ b4 (x 5) ++ b4 (x 6) ++ b4 (x 7) ++ b4 (x 8) = [Value.int .u8 1] ++ (b4 (IntKind.wrap .i32 (↑(ByteArray.size nm) : Int)) ++ intList nm.data.toList) ++ gB (bv bs) (List.length bs) ++ gL es ++ b4 (x 0) ++ b4 (x 1) ++ b4 (x 2) ++ b4 (x 3) ++ b4 (x 4) ++ b4 (x 5) ++ b4 (x 6) ++ b4 (x 7) ++ b4 (x 8)∧1 = 1)∧True)∧(List.length ([Value.int .u8 1] ++ (b4 (IntKind.wrap .i32 (↑(ByteArray.size nm) : Int)) ++ intList nm.data.toList) ++ gB (bv bs) (List.length bs) ++ gL es ++ b4 (x 0) ++ b4 (x 1) ++ b4 (x 2) ++ b4 (x 3) ++ b4 (x 4) ++ b4 (x 5) ++ b4 (x 6) ++ b4 (x 7) ++ b4 (x 8) ++ b8 (x 9)) = 1 + (4 + ByteArray.size nm) + List.length x0 + List.length (gL es) + 4 + 4 + 4 + 4 + 4 + 4 + 4 + 4 + 4 + 8∧List.all ([Value.int .u8 1] ++ (b4 (IntKind.wrap .i32 (↑(ByteArray.size nm) : Int)) ++ intList nm.data.toList) ++ gB (bv bs) (List.length bs) ++ gL es ++ b4 (x 0) ++ b4 (x 1) ++ b4 (x 2) ++ b4 (x 3) ++ b4 (x 4) ++ b4 (x 5) ++ b4 (x 6) ++ b4 (x 7) ++ b4 (x 8) ++ b8 (x 9)) isB = true∧Nat.le x2 70368744177664)∧([Value.pointer (some (Addr.mk 5 0 none)),Value.int .i32 (x 12)] = [Value.pointer (some (Addr.mk 5 0 none)),Value.int .i32 (x 12)]∧true = true∧true = true∧true = true)∧([Value.slice x28 x3 (2 * x3 + 1)] = [Value.slice x28 x3 (2 * x3 + 1)]∧0 = 0)∧([Value.int .u8 1] ++ (b4 (IntKind.wrap .i32 (↑(ByteArray.size nm) : Int)) ++ intList nm.data.toList) ++ gB (bv bs) (List.length bs) ++ gL es ++ b4 (x 0) ++ b4 (x 1) ++ b4 (x 2) ++ b4 (x 3) ++ b4 (x 4) ++ b4 (x 5) ++ b4 (x 6) ++ b4 (x 7) ++ b4 (x 8) ++ b8 (x 9) = [Value.int .u8 1] ++ (b4 (IntKind.wrap .i32 (↑(ByteArray.size nm) : Int)) ++ intList nm.data.toList) ++ gB (bv bs) (List.length bs) ++ gL es ++ b4 (x 0) ++ b4 (x 1) ++ b4 (x 2) ++ b4 (x 3) ++ b4 (x 4) ++ b4 (x 5) ++ b4 (x 6) ++ b4 (x 7) ++ b4 (x 8) ++ b8 (x 9)∧1 = 1)∧True)∧((List.length ([Value.int .u8 1] ++ (b4 (IntKind.wrap .i32 (↑(ByteArray.size nm) : Int)) ++ intList nm.data.toList) ++ gB (bv bs) (List.length bs) ++ gL es ++ b4 (x 0) ++ b4 (x 1) ++ b4 (x 2) ++ b4 (x 3) ++ b4 (x 4) ++ b4 (x 5) ++ b4 (x 6) ++ b4 (x 7) ++ b4 (x 8) ++ b8 (x 9) ++ b4 (x 12)) = 1 + (4 + ByteArray.size nm) + List.length x0 + List.length (gL es) + 4 + 4 + 4 + 4 + 4 + 4 + 4 + 4 + 4 + 8 + 4∧List.all ([Value.int .u8 1] ++ (b4 (IntKind.wrap .i32 (↑(ByteArray.size nm) : Int)) ++ intList nm.data.toList) ++ gB (bv bs) (List.length bs) ++ gL es ++ b4 (x 0) ++ b4 (x 1) ++ b4 (x 2) ++ b4 (x 3) ++ b4 (x 4) ++ b4 (x 5) ++ b4 (x 6) ++ b4 (x 7) ++ b4 (x 8) ++ b8 (x 9) ++ b4 (x 12)) isB = true)∧(1 + (4 + ByteArray.size nm) + List.length x0 + List.length (gL es) + 4 + 4 + 4 + 4 + 4 + 4 + 4 + 4 + 4 + 8 + 4 = 0 → False)∧Nat.le x2 1099511627776)∧([Value.pointer (some (Addr.mk 5 0 none))] = [Value.pointer (some (Addr.mk 5 0 none))]∧true = true∧true = true∧true = true)∧([Value.slice x29 x2 (2 * x2 + 1)] = [Value.slice x29 x2 (2 * x2 + 1)]∧0 = 0)∧([Value.int .u8 1] ++ (b4 (IntKind.wrap .i32 (↑(ByteArray.size nm) : Int)) ++ intList nm.data.toList) ++ gB (bv bs) (List.length bs) ++ gL es ++ b4 (x 0) ++ b4 (x 1) ++ b4 (x 2) ++ b4 (x 3) ++ b4 (x 4) ++ b4 (x 5) ++ b4 (x 6) ++ b4 (x 7) ++ b4 (x 8) ++ b8 (x 9) ++ b4 (x 12) = [Value.int .u8 1] ++ (b4 (IntKind.wrap .i32 (↑(ByteArray.size nm) : Int)) ++ intList nm.data.toList) ++ gB (bv bs) (List.length bs) ++ gL es ++ b4 (x 0) ++ b4 (x 1) ++ b4 (x 2) ++ b4 (x 3) ++ b4 (x 4) ++ b4 (x 5) ++ b4 (x 6) ++ b4 (x 7) ++ b4 (x 8) ++ b8 (x 9) ++ b4 (x 12)∧1 = 1)∧True) (by kernel_rfl) ⟨⟨⟨⟨⟨⟨⟨⟨⟨⟨⟨⟨⟨⟨⟨⟨trivial,⟨⟨⟨⟨rfl,rfl⟩,rfl⟩,⟨⟨⟨rfl,rfl⟩,rfl⟩,⟨⟨⟨rfl,rfl⟩,rfl⟩,trivial⟩⟩⟩,⟨⟨⟨⟨rfl,rfl⟩,rfl⟩,⟨⟨⟨rfl,rfl⟩,rfl⟩,trivial⟩⟩,⟨⟨⟨⟨rfl,rfl⟩,rfl⟩,⟨⟨⟨rfl,rfl⟩,rfl⟩,trivial⟩⟩,⟨⟨⟨⟨rfl,rfl⟩,rfl⟩,⟨⟨⟨rfl,rfl⟩,rfl⟩,trivial⟩⟩,⟨⟨⟨⟨rfl,rfl⟩,rfl⟩,⟨⟨⟨rfl,rfl⟩,rfl⟩,trivial⟩⟩,⟨trivial,⟨trivial,⟨trivial,⟨trivial,⟨trivial,⟨trivial,⟨trivial,⟨trivial,⟨trivial,⟨trivial,trivial⟩⟩⟩⟩⟩⟩⟩⟩⟩⟩⟩⟩⟩⟩⟩⟩,⟨⟨rfl,⟨rfl,h0⟩⟩,⟨⟨rfl,⟨rfl,⟨rfl,rfl⟩⟩⟩,⟨⟨rfl,rfl⟩,⟨⟨rfl,rfl⟩,trivial⟩⟩⟩⟩⟩,⟨⟨⟨h1,⟨h2,⟨h3,h4⟩⟩⟩,h5⟩,⟨⟨rfl,⟨rfl,⟨rfl,rfl⟩⟩⟩,⟨⟨rfl,rfl⟩,⟨⟨rfl,rfl⟩,⟨rfl,⟨⟨rfl,rfl⟩,trivial⟩⟩⟩⟩⟩⟩⟩,⟨⟨⟨h6,h7⟩,h8⟩,⟨⟨rfl,⟨rfl,⟨rfl,rfl⟩⟩⟩,⟨⟨rfl,rfl⟩,⟨⟨rfl,rfl⟩,⟨rfl,⟨⟨rfl,rfl⟩,trivial⟩⟩⟩⟩⟩⟩⟩,⟨⟨h9,⟨h10,h11⟩⟩,⟨⟨rfl,⟨rfl,⟨rfl,rfl⟩⟩⟩,⟨⟨rfl,rfl⟩,⟨⟨rfl,rfl⟩,trivial⟩⟩⟩⟩⟩,⟨⟨h12,⟨h13,h14⟩⟩,⟨⟨rfl,⟨rfl,⟨rfl,rfl⟩⟩⟩,⟨⟨rfl,rfl⟩,⟨⟨rfl,rfl⟩,trivial⟩⟩⟩⟩⟩,⟨⟨h15,⟨h16,h17⟩⟩,⟨⟨rfl,⟨rfl,⟨rfl,rfl⟩⟩⟩,⟨⟨rfl,rfl⟩,⟨⟨rfl,rfl⟩,trivial⟩⟩⟩⟩⟩,⟨⟨h18,⟨h19,h20⟩⟩,⟨⟨rfl,⟨rfl,⟨rfl,rfl⟩⟩⟩,⟨⟨rfl,rfl⟩,⟨⟨rfl,rfl⟩,trivial⟩⟩⟩⟩⟩,⟨⟨h21,⟨h22,h23⟩⟩,⟨⟨rfl,⟨rfl,⟨rfl,rfl⟩⟩⟩,⟨⟨rfl,rfl⟩,⟨⟨rfl,rfl⟩,trivial⟩⟩⟩⟩⟩,⟨⟨h24,⟨h25,h26⟩⟩,⟨⟨rfl,⟨rfl,⟨rfl,rfl⟩⟩⟩,⟨⟨rfl,rfl⟩,⟨⟨rfl,rfl⟩,trivial⟩⟩⟩⟩⟩,⟨⟨h27,⟨h28,h29⟩⟩,⟨⟨rfl,⟨rfl,⟨rfl,rfl⟩⟩⟩,⟨⟨rfl,rfl⟩,⟨⟨rfl,rfl⟩,trivial⟩⟩⟩⟩⟩,⟨⟨h30,⟨h31,h32⟩⟩,⟨⟨rfl,⟨rfl,⟨rfl,rfl⟩⟩⟩,⟨⟨rfl,rfl⟩,⟨⟨rfl,rfl⟩,trivial⟩⟩⟩⟩⟩,⟨⟨h33,⟨h34,h35⟩⟩,⟨⟨rfl,⟨rfl,⟨rfl,rfl⟩⟩⟩,⟨⟨rfl,rfl⟩,⟨⟨rfl,rfl⟩,trivial⟩⟩⟩⟩⟩,⟨⟨h36,⟨h37,h38⟩⟩,⟨⟨rfl,⟨rfl,⟨rfl,rfl⟩⟩⟩,⟨⟨rfl,rfl⟩,⟨⟨rfl,rfl⟩,trivial⟩⟩⟩⟩⟩,⟨⟨h39,⟨h40,h41⟩⟩,⟨⟨rfl,⟨rfl,⟨rfl,rfl⟩⟩⟩,⟨⟨rfl,rfl⟩,⟨⟨rfl,rfl⟩,trivial⟩⟩⟩⟩⟩,⟨⟨⟨h42,h43⟩,⟨h44,h45⟩⟩,⟨⟨rfl,⟨rfl,⟨rfl,rfl⟩⟩⟩,⟨⟨rfl,rfl⟩,⟨⟨rfl,rfl⟩,trivial⟩⟩⟩⟩⟩
theorem cutC {r : Option (Ending × Hp × List Ans × Prop)} {e : Ending} {os : List (Nat × AObj)} {next : Nat} (h : RanC r e os next) : RanC r e [] next:=by
 obtain ⟨h⟩:=h
 refine ⟨?_⟩
 unfold CameC at h ⊢
 split at h
 ·exact ⟨h.1,h.2.1,trivial,h.2.2.2⟩
 ·exact h.elim
def nodeRow (nm : ByteArray) (bs : List Int) (es : List Ent) (x : Nat → Int) : List Value:=[Value.int IntKind.u8 1] ++ (b4 (IntKind.wrap IntKind.i32 ((nm.size : Nat) : Int)) ++ intList nm.data.toList) ++ gB (bv bs) bs.length ++ gL es ++ b4 (x 0) ++ b4 (x 1) ++ b4 (x 2) ++ b4 (x 3) ++ b4 (x 4) ++ b4 (x 5) ++ b4 (x 6) ++ b4 (x 7) ++ b4 (x 8) ++ b8 (x 9) ++ b4 (x 12)
theorem bv_len (bs : List Int) : (bv bs).length = bs.length:=by simp [bv]
theorem b8_len (v : Int) : (b8 v).length = 8:=rfl
theorem b8_isB (v : Int) : (b8 v).all isB = true:=rfl
theorem one_isB : [Value.int IntKind.u8 1].all isB = true:=rfl
theorem bv_isB (bs : List Int) : (bv bs).all isB = true:=List.all_eq_true.2 fun v hv => by
 obtain ⟨b,_,rfl⟩:=List.mem_map.1 hv
 rfl
theorem gB_isB (bs : List Int) (m : Nat) : (gB (bv bs) m).all isB = true:=by rw [gB,List.all_append,bv_isB];rfl
theorem gL_isB (es : List Ent) : (gL es).all isB = true:=by rw [gL,List.all_append,aB_isB];rfl
theorem bv_asI {us : List Value} (h : us.all isB = true) : bv (us.map asI) = us:=by
 rw [bv,List.map_map]
 have : us.map (Value.int IntKind.u8 ∘ asI) = us.map id:=List.map_congr_left fun v hv => by
  have:=List.all_eq_true.1 h v hv
  unfold isB at this
  split at this
  ·rfl
  ·cases this
 rw [this,List.map_id]
theorem wBuf_ok {pr : Prot} {w0 : World} (hG : GT pr w0) : SumOk Tryz.prog pr w0 0 16 wBuf:=by
 refine fnL_ok gt_stands hG fun args μ τ c p hg hp => ?_
 unfold wordX at hg
 split at hg
 ·split at hg
  ·split at hg
   ·simp only [Option.some.injEq,Prod.mk.injEq] at hg
    obtain ⟨_,rfl,rfl⟩:=hg
    exact con31 hp.1.1 hp.1.2.1 hp.1.2.2.1 hp.1.2.2.2 hp.2
   ·cases hg
  ·cases hg
 ·cases hg
theorem wLst_ok {pr : Prot} {w0 : World} (hG : GT pr w0) {es : List Ent} (hm : es.length < 1099511627776) : SumOk Tryz.prog pr w0 0 17 (wLst es):=by
 refine fnL_ok gt_stands hG fun args μ τ c p hg hp => ?_
 unfold wordX at hg
 split at hg
 ·split at hg
  ·split at hg
   ·simp only [Option.some.injEq,Prod.mk.injEq] at hg
    obtain ⟨_,rfl,rfl⟩:=hg
    exact con32 hp.1.1 hp.1.2 hm hp.2
   ·cases hg
  ·cases hg
 ·cases hg
theorem num37_ok {pr : Prot} {w0 : World} (hG : GT pr w0) : SumOk Tryz.prog pr w0 0 22 num37:=by
 refine fnL_ok gt_stands hG fun args μ τ c p hg hp => ?_
 split at hg
 ·split at hg
  ·split at hg
   ·rename_i us _ _
    simp only [Option.some.injEq,Prod.mk.injEq] at hg
    obtain ⟨_,rfl,rfl⟩:=hg
    obtain ⟨⟨h1,h2⟩,h3,h4⟩:=hp
    have hcon:=con37 (bs:=us.map asI) (by rw [List.length_map];omega) (by rw [List.length_map];omega)
    rw [List.length_map,h1,bv_asI h2] at hcon
    exact hcon
   ·cases hg
  ·cases hg
 ·cases hg
theorem s13_ok {pr : Prot} {w0 : World} (hG : GT pr w0) {es : List Ent} (hm : es.length < 1099511627776) : SmOk Tryz.prog E1 pr w0 (s13 es) :=
 withS_ok (withS_ok (withS_ok (withS_ok (withS_ok (withS_ok (withS_ok (sm0_ok pr w0) (s30_ok hG)) (wBuf_ok hG)) (wLst_ok hG hm)) (s34_ok hG)) (s35_ok hG)) (s36_ok hG)) (num37_ok hG)
def kn13 (bs : List Int) (es : List Ent) (nm : ByteArray) (x : Nat → Int) (h : Int) : ConW:=⟨fun X => [.agg ⟨nodeV nm (X 0) (X 1) x⟩],[.v (bv bs) bs.length,.v (av es) es.length],fun _ => .int .u64 h,fun _ => []⟩
theorem con13 {bs : List Int} {es : List Ent} {nm : ByteArray} {x : Nat → Int} (hm : es.length < 1099511627776) (hb : 1 + (4 + nm.size) + (gB (bv bs) bs.length).length + (gL es).length + 48 ≤ 1099511627776) : ConWG GT Tryz.prog 6 (kn13 bs es nm x (fnvV (nodeRow nm bs es x))):=by
 have hc:=c13_came bs es nm x (by first | (show (_ : Nat) ≤ _;omega) | (simp only [List.all_append,one_isB,b4_isB,b8_isB,intList_isB,gB_isB,gL_isB,bv_isB,Bool.and_self];done) | (simp only [List.length_append,b4_len,b8_len,intList_len,size_len,List.length_cons,List.length_nil,bv_len];try omega) | omega) (by first | (show (_ : Nat) ≤ _;omega) | (simp only [List.all_append,one_isB,b4_isB,b8_isB,intList_isB,gB_isB,gL_isB,bv_isB,Bool.and_self];done) | (simp only [List.length_append,b4_len,b8_len,intList_len,size_len,List.length_cons,List.length_nil,bv_len];try omega) | omega) (by first | (show (_ : Nat) ≤ _;omega) | (simp only [List.all_append,one_isB,b4_isB,b8_isB,intList_isB,gB_isB,gL_isB,bv_isB,Bool.and_self];done) | (simp only [List.length_append,b4_len,b8_len,intList_len,size_len,List.length_cons,List.length_nil,bv_len];try omega) | omega) (by first | (show (_ : Nat) ≤ _;omega) | (simp only [List.all_append,one_isB,b4_isB,b8_isB,intList_isB,gB_isB,gL_isB,bv_isB,Bool.and_self];done) | (simp only [List.length_append,b4_len,b8_len,intList_len,size_len,List.length_cons,List.length_nil,bv_len];try omega) | omega) (by first | (show (_ : Nat) ≤ _;omega) | (simp only [List.all_append,one_isB,b4_isB,b8_isB,intList_isB,gB_isB,gL_isB,bv_isB,Bool.and_self];done) | (simp only [List.length_append,b4_len,b8_len,intList_len,size_len,List.length_cons,List.length_nil,bv_len];try omega) | omega) (by first | (show (_ : Nat) ≤ _;omega) | (simp only [List.all_append,one_isB,b4_isB,b8_isB,intList_isB,gB_isB,gL_isB,bv_isB,Bool.and_self];done) | (simp only [List.length_append,b4_len,b8_len,intList_len,size_len,List.length_cons,List.length_nil,bv_len];try omega) | omega) (by first | (show (_ : Nat) ≤ _;omega) | (simp only [List.all_append,one_isB,b4_isB,b8_isB,intList_isB,gB_isB,gL_isB,bv_isB,Bool.and_self];done) | (simp only [List.length_append,b4_len,b8_len,intList_len,size_len,List.length_cons,List.length_nil,bv_len];try omega) | omega) (by first | (show (_ : Nat) ≤ _;omega) | (simp only [List.all_append,one_isB,b4_isB,b8_isB,intList_isB,gB_isB,gL_isB,bv_isB,Bool.and_self];done) | (simp only [List.length_append,b4_len,b8_len,intList_len,size_len,List.length_cons,List.length_nil,bv_len];try omega) | omega) (by first | (show (_ : Nat) ≤ _;omega) | (simp only [List.all_append,one_isB,b4_isB,b8_isB,intList_isB,gB_isB,gL_isB,bv_isB,Bool.and_self];done) | (simp only [List.length_append,b4_len,b8_len,intList_len,size_len,List.length_cons,List.length_nil,bv_len];try omega) | omega) (by first | (show (_ : Nat) ≤ _;omega) | (simp only [List.all_append,one_isB,b4_isB,b8_isB,intList_isB,gB_isB,gL_isB,bv_isB,Bool.and_self];done) | (simp only [List.length_append,b4_len,b8_len,intList_len,size_len,List.length_cons,List.length_nil,bv_len];try omega) | omega) (by first | (show (_ : Nat) ≤ _;omega) | (simp only [List.all_append,one_isB,b4_isB,b8_isB,intList_isB,gB_isB,gL_isB,bv_isB,Bool.and_self];done) | (simp only [List.length_append,b4_len,b8_len,intList_len,size_len,List.length_cons,List.length_nil,bv_len];try omega) | omega) (by first | (show (_ : Nat) ≤ _;omega) | (simp only [List.all_append,one_isB,b4_isB,b8_isB,intList_isB,gB_isB,gL_isB,bv_isB,Bool.and_self];done) | (simp only [List.length_append,b4_len,b8_len,intList_len,size_len,List.length_cons,List.length_nil,bv_len];try omega) | omega) (by first | (show (_ : Nat) ≤ _;omega) | (simp only [List.all_append,one_isB,b4_isB,b8_isB,intList_isB,gB_isB,gL_isB,bv_isB,Bool.and_self];done) | (simp only [List.length_append,b4_len,b8_len,intList_len,size_len,List.length_cons,List.length_nil,bv_len];try omega) | omega) (by first | (show (_ : Nat) ≤ _;omega) | (simp only [List.all_append,one_isB,b4_isB,b8_isB,intList_isB,gB_isB,gL_isB,bv_isB,Bool.and_self];done) | (simp only [List.length_append,b4_len,b8_len,intList_len,size_len,List.length_cons,List.length_nil,bv_len];try omega) | omega) (by first | (show (_ : Nat) ≤ _;omega) | (simp only [List.all_append,one_isB,b4_isB,b8_isB,intList_isB,gB_isB,gL_isB,bv_isB,Bool.and_self];done) | (simp only [List.length_append,b4_len,b8_len,intList_len,size_len,List.length_cons,List.length_nil,bv_len];try omega) | omega) (by first | (show (_ : Nat) ≤ _;omega) | (simp only [List.all_append,one_isB,b4_isB,b8_isB,intList_isB,gB_isB,gL_isB,bv_isB,Bool.and_self];done) | (simp only [List.length_append,b4_len,b8_len,intList_len,size_len,List.length_cons,List.length_nil,bv_len];try omega) | omega) (by first | (show (_ : Nat) ≤ _;omega) | (simp only [List.all_append,one_isB,b4_isB,b8_isB,intList_isB,gB_isB,gL_isB,bv_isB,Bool.and_self];done) | (simp only [List.length_append,b4_len,b8_len,intList_len,size_len,List.length_cons,List.length_nil,bv_len];try omega) | omega) (by first | (show (_ : Nat) ≤ _;omega) | (simp only [List.all_append,one_isB,b4_isB,b8_isB,intList_isB,gB_isB,gL_isB,bv_isB,Bool.and_self];done) | (simp only [List.length_append,b4_len,b8_len,intList_len,size_len,List.length_cons,List.length_nil,bv_len];try omega) | omega) (by first | (show (_ : Nat) ≤ _;omega) | (simp only [List.all_append,one_isB,b4_isB,b8_isB,intList_isB,gB_isB,gL_isB,bv_isB,Bool.and_self];done) | (simp only [List.length_append,b4_len,b8_len,intList_len,size_len,List.length_cons,List.length_nil,bv_len];try omega) | omega) (by first | (show (_ : Nat) ≤ _;omega) | (simp only [List.all_append,one_isB,b4_isB,b8_isB,intList_isB,gB_isB,gL_isB,bv_isB,Bool.and_self];done) | (simp only [List.length_append,b4_len,b8_len,intList_len,size_len,List.length_cons,List.length_nil,bv_len];try omega) | omega) (by first | (show (_ : Nat) ≤ _;omega) | (simp only [List.all_append,one_isB,b4_isB,b8_isB,intList_isB,gB_isB,gL_isB,bv_isB,Bool.and_self];done) | (simp only [List.length_append,b4_len,b8_len,intList_len,size_len,List.length_cons,List.length_nil,bv_len];try omega) | omega) (by first | (show (_ : Nat) ≤ _;omega) | (simp only [List.all_append,one_isB,b4_isB,b8_isB,intList_isB,gB_isB,gL_isB,bv_isB,Bool.and_self];done) | (simp only [List.length_append,b4_len,b8_len,intList_len,size_len,List.length_cons,List.length_nil,bv_len];try omega) | omega) (by first | (show (_ : Nat) ≤ _;omega) | (simp only [List.all_append,one_isB,b4_isB,b8_isB,intList_isB,gB_isB,gL_isB,bv_isB,Bool.and_self];done) | (simp only [List.length_append,b4_len,b8_len,intList_len,size_len,List.length_cons,List.length_nil,bv_len];try omega) | omega) (by first | (show (_ : Nat) ≤ _;omega) | (simp only [List.all_append,one_isB,b4_isB,b8_isB,intList_isB,gB_isB,gL_isB,bv_isB,Bool.and_self];done) | (simp only [List.length_append,b4_len,b8_len,intList_len,size_len,List.length_cons,List.length_nil,bv_len];try omega) | omega) (by first | (show (_ : Nat) ≤ _;omega) | (simp only [List.all_append,one_isB,b4_isB,b8_isB,intList_isB,gB_isB,gL_isB,bv_isB,Bool.and_self];done) | (simp only [List.length_append,b4_len,b8_len,intList_len,size_len,List.length_cons,List.length_nil,bv_len];try omega) | omega) (by first | (show (_ : Nat) ≤ _;omega) | (simp only [List.all_append,one_isB,b4_isB,b8_isB,intList_isB,gB_isB,gL_isB,bv_isB,Bool.and_self];done) | (simp only [List.length_append,b4_len,b8_len,intList_len,size_len,List.length_cons,List.length_nil,bv_len];try omega) | omega) (by first | (show (_ : Nat) ≤ _;omega) | (simp only [List.all_append,one_isB,b4_isB,b8_isB,intList_isB,gB_isB,gL_isB,bv_isB,Bool.and_self];done) | (simp only [List.length_append,b4_len,b8_len,intList_len,size_len,List.length_cons,List.length_nil,bv_len];try omega) | omega) (by first | (show (_ : Nat) ≤ _;omega) | (simp only [List.all_append,one_isB,b4_isB,b8_isB,intList_isB,gB_isB,gL_isB,bv_isB,Bool.and_self];done) | (simp only [List.length_append,b4_len,b8_len,intList_len,size_len,List.length_cons,List.length_nil,bv_len];try omega) | omega) (by first | (show (_ : Nat) ≤ _;omega) | (simp only [List.all_append,one_isB,b4_isB,b8_isB,intList_isB,gB_isB,gL_isB,bv_isB,Bool.and_self];done) | (simp only [List.length_append,b4_len,b8_len,intList_len,size_len,List.length_cons,List.length_nil,bv_len];try omega) | omega) (by first | (show (_ : Nat) ≤ _;omega) | (simp only [List.all_append,one_isB,b4_isB,b8_isB,intList_isB,gB_isB,gL_isB,bv_isB,Bool.and_self];done) | (simp only [List.length_append,b4_len,b8_len,intList_len,size_len,List.length_cons,List.length_nil,bv_len];try omega) | omega) (by first | (show (_ : Nat) ≤ _;omega) | (simp only [List.all_append,one_isB,b4_isB,b8_isB,intList_isB,gB_isB,gL_isB,bv_isB,Bool.and_self];done) | (simp only [List.length_append,b4_len,b8_len,intList_len,size_len,List.length_cons,List.length_nil,bv_len];try omega) | omega) (by first | (show (_ : Nat) ≤ _;omega) | (simp only [List.all_append,one_isB,b4_isB,b8_isB,intList_isB,gB_isB,gL_isB,bv_isB,Bool.and_self];done) | (simp only [List.length_append,b4_len,b8_len,intList_len,size_len,List.length_cons,List.length_nil,bv_len];try omega) | omega) (by first | (show (_ : Nat) ≤ _;omega) | (simp only [List.all_append,one_isB,b4_isB,b8_isB,intList_isB,gB_isB,gL_isB,bv_isB,Bool.and_self];done) | (simp only [List.length_append,b4_len,b8_len,intList_len,size_len,List.length_cons,List.length_nil,bv_len];try omega) | omega) (by first | (show (_ : Nat) ≤ _;omega) | (simp only [List.all_append,one_isB,b4_isB,b8_isB,intList_isB,gB_isB,gL_isB,bv_isB,Bool.and_self];done) | (simp only [List.length_append,b4_len,b8_len,intList_len,size_len,List.length_cons,List.length_nil,bv_len];try omega) | omega) (by first | (show (_ : Nat) ≤ _;omega) | (simp only [List.all_append,one_isB,b4_isB,b8_isB,intList_isB,gB_isB,gL_isB,bv_isB,Bool.and_self];done) | (simp only [List.length_append,b4_len,b8_len,intList_len,size_len,List.length_cons,List.length_nil,bv_len];try omega) | omega) (by first | (show (_ : Nat) ≤ _;omega) | (simp only [List.all_append,one_isB,b4_isB,b8_isB,intList_isB,gB_isB,gL_isB,bv_isB,Bool.and_self];done) | (simp only [List.length_append,b4_len,b8_len,intList_len,size_len,List.length_cons,List.length_nil,bv_len];try omega) | omega) (by first | (show (_ : Nat) ≤ _;omega) | (simp only [List.all_append,one_isB,b4_isB,b8_isB,intList_isB,gB_isB,gL_isB,bv_isB,Bool.and_self];done) | (simp only [List.length_append,b4_len,b8_len,intList_len,size_len,List.length_cons,List.length_nil,bv_len];try omega) | omega) (by first | (show (_ : Nat) ≤ _;omega) | (simp only [List.all_append,one_isB,b4_isB,b8_isB,intList_isB,gB_isB,gL_isB,bv_isB,Bool.and_self];done) | (simp only [List.length_append,b4_len,b8_len,intList_len,size_len,List.length_cons,List.length_nil,bv_len];try omega) | omega) (by first | (show (_ : Nat) ≤ _;omega) | (simp only [List.all_append,one_isB,b4_isB,b8_isB,intList_isB,gB_isB,gL_isB,bv_isB,Bool.and_self];done) | (simp only [List.length_append,b4_len,b8_len,intList_len,size_len,List.length_cons,List.length_nil,bv_len];try omega) | omega) (by first | (show (_ : Nat) ≤ _;omega) | (simp only [List.all_append,one_isB,b4_isB,b8_isB,intList_isB,gB_isB,gL_isB,bv_isB,Bool.and_self];done) | (simp only [List.length_append,b4_len,b8_len,intList_len,size_len,List.length_cons,List.length_nil,bv_len];try omega) | omega) (by first | (show (_ : Nat) ≤ _;omega) | (simp only [List.all_append,one_isB,b4_isB,b8_isB,intList_isB,gB_isB,gL_isB,bv_isB,Bool.and_self];done) | (simp only [List.length_append,b4_len,b8_len,intList_len,size_len,List.length_cons,List.length_nil,bv_len];try omega) | omega) (by first | (show (_ : Nat) ≤ _;omega) | (simp only [List.all_append,one_isB,b4_isB,b8_isB,intList_isB,gB_isB,gL_isB,bv_isB,Bool.and_self];done) | (simp only [List.length_append,b4_len,b8_len,intList_len,size_len,List.length_cons,List.length_nil,bv_len];try omega) | omega) (by first | (show (_ : Nat) ≤ _;omega) | (simp only [List.all_append,one_isB,b4_isB,b8_isB,intList_isB,gB_isB,gL_isB,bv_isB,Bool.and_self];done) | (simp only [List.length_append,b4_len,b8_len,intList_len,size_len,List.length_cons,List.length_nil,bv_len];try omega) | omega) (by first | (show (_ : Nat) ≤ _;omega) | (simp only [List.all_append,one_isB,b4_isB,b8_isB,intList_isB,gB_isB,gL_isB,bv_isB,Bool.and_self];done) | (simp only [List.length_append,b4_len,b8_len,intList_len,size_len,List.length_cons,List.length_nil,bv_len];try omega) | omega) (by intro h;omega) (by first | (show (_ : Nat) ≤ _;omega) | (simp only [List.all_append,one_isB,b4_isB,b8_isB,intList_isB,gB_isB,gL_isB,bv_isB,Bool.and_self];done) | (simp only [List.length_append,b4_len,b8_len,intList_len,size_len,List.length_cons,List.length_nil,bv_len];try omega) | omega)
 refine conW_read hP1 (fun pr w0 hG => s13_ok hG hm) (cutC hc) (by simp [limit]) ⟨rfl,rfl,by simp,by simp,by unfold limit;omega,by simp⟩ (by simp [nodeV]) (pure_int _ _) (by intro ι ι' f g h;simp [nodeV,h 0 (by simp),h 1 (by simp)]) (by intro σ;simp [upV])
end Go.Abs
end
section
namespace Go.Abs
open Go.Proofs
set_option maxRecDepth 100000
theorem r60a_came (v : Int) (h0 : decide (IntKind.wrap .i64 v < 0) = false) :
  RanC (runO Tryz.prog E1 (sm0) noRun 100 45 [Value.int .i8 v] (mkHp 0 []) [.skip 6,.b false] True) (.returned (Value.slice (some ⟨0,0,none⟩) 1 2)) [(0,AObj.cells [Value.int .u8 (IntKind.wrap .u8 (IntKind.wrap .i64 v))] 0)] 1 :=
 cameCF_of (O:=(True∧decide (IntKind.wrap .i64 v < 0) = false)) (by kernel_rfl) ⟨trivial,h0⟩
theorem r60b_came (v : Int) (h0 : decide (IntKind.wrap .i64 v < 0) = true) :
  RanC (runO Tryz.prog E1 (sm0) noRun 100 45 [Value.int .i8 v] (mkHp 0 []) [.skip 6,.b true] True) (.returned (Value.slice (some ⟨0,0,none⟩) 1 2)) [(0,AObj.cells [Value.int .u8 (IntKind.wrap .u8 (IntKind.wrap .i64 (IntKind.wrap .i64 v + 256)))] 0)] 1 :=
 cameCF_of (O:=(True∧decide (IntKind.wrap .i64 v < 0) = true)) (by kernel_rfl) ⟨trivial,h0⟩
theorem r64a_came (v : Int) (h0 : decide (IntKind.wrap .i64 v < 0) = false) :
  RanC (runO Tryz.prog E1 (sm0) noRun 100 49 [Value.int .i32 v] (mkHp 0 []) [.skip 6,.b false] True) (.returned (Value.slice (some ⟨0,0,none⟩) 4 8)) [(0,AObj.cells [Value.int .u8 (IntKind.wrap .u8 (Int.tmod (IntKind.wrap .u64 (Int.tdiv (IntKind.wrap .u64 (Int.tdiv (IntKind.wrap .u64 (Int.tdiv (IntKind.wrap .u64 (IntKind.wrap .i64 v)) 256)) 256)) 256)) 256)),Value.int .u8 (IntKind.wrap .u8 (Int.tmod (IntKind.wrap .u64 (Int.tdiv (IntKind.wrap .u64 (Int.tdiv (IntKind.wrap .u64 (IntKind.wrap .i64 v)) 256)) 256)) 256)),Value.int .u8 (IntKind.wrap .u8 (Int.tmod (IntKind.wrap .u64 (Int.tdiv (IntKind.wrap .u64 (IntKind.wrap .i64 v)) 256)) 256)),Value.int .u8 (IntKind.wrap .u8 (Int.tmod (IntKind.wrap .u64 (IntKind.wrap .i64 v)) 256))] 0)] 1 :=
 cameCF_of (O:=(True∧decide (IntKind.wrap .i64 v < 0) = false)) (by kernel_rfl) ⟨trivial,h0⟩
theorem r64b_came (v : Int) (h0 : decide (IntKind.wrap .i64 v < 0) = true) :
  RanC (runO Tryz.prog E1 (sm0) noRun 100 49 [Value.int .i32 v] (mkHp 0 []) [.skip 6,.b true] True) (.returned (Value.slice (some ⟨0,0,none⟩) 4 8)) [(0,AObj.cells [Value.int .u8 (IntKind.wrap .u8 (Int.tmod (IntKind.wrap .u64 (Int.tdiv (IntKind.wrap .u64 (Int.tdiv (IntKind.wrap .u64 (Int.tdiv (IntKind.wrap .u64 (IntKind.wrap .i64 (IntKind.wrap .i64 v + 4294967296))) 256)) 256)) 256)) 256)),Value.int .u8 (IntKind.wrap .u8 (Int.tmod (IntKind.wrap .u64 (Int.tdiv (IntKind.wrap .u64 (Int.tdiv (IntKind.wrap .u64 (IntKind.wrap .i64 (IntKind.wrap .i64 v + 4294967296))) 256)) 256)) 256)),Value.int .u8 (IntKind.wrap .u8 (Int.tmod (IntKind.wrap .u64 (Int.tdiv (IntKind.wrap .u64 (IntKind.wrap .i64 (IntKind.wrap .i64 v + 4294967296))) 256)) 256)),Value.int .u8 (IntKind.wrap .u8 (Int.tmod (IntKind.wrap .u64 (IntKind.wrap .i64 (IntKind.wrap .i64 v + 4294967296))) 256))] 0)] 1 :=
 cameCF_of (O:=(True∧decide (IntKind.wrap .i64 v < 0) = true)) (by kernel_rfl) ⟨trivial,h0⟩
theorem r87_came (v : Int)  :
  RanC (runO Tryz.prog E1 (sm0) noRun 100 71 [Value.int .u32 v] (mkHp 0 []) [] True) (.returned (Value.slice (some ⟨0,0,none⟩) 4 8)) [(0,AObj.cells [Value.int .u8 (IntKind.wrap .u8 (Int.tmod (IntKind.wrap .u64 (Int.tdiv (IntKind.wrap .u64 (Int.tdiv (IntKind.wrap .u64 (Int.tdiv (IntKind.wrap .u64 v) 256)) 256)) 256)) 256)),Value.int .u8 (IntKind.wrap .u8 (Int.tmod (IntKind.wrap .u64 (Int.tdiv (IntKind.wrap .u64 (Int.tdiv (IntKind.wrap .u64 v) 256)) 256)) 256)),Value.int .u8 (IntKind.wrap .u8 (Int.tmod (IntKind.wrap .u64 (Int.tdiv (IntKind.wrap .u64 v) 256)) 256)),Value.int .u8 (IntKind.wrap .u8 (Int.tmod (IntKind.wrap .u64 v) 256))] 0)] 1 :=
 cameCF_of (O:=True) (by kernel_rfl) trivial
theorem r66a_came (v : Int) (h0 : decide (v ≥ 0) = true) :
  RanC (runO Tryz.prog E1 (sm0) noRun 100 51 [Value.int .i64 v] (mkHp 0 []) [.skip 3,.b true] True) (.returned (Value.slice (some ⟨0,0,none⟩) 8 16)) [(0,AObj.cells [Value.int .u8 (IntKind.wrap .u8 (Int.tmod (IntKind.wrap .u64 (Int.tdiv (IntKind.wrap .u64 (Int.tdiv (IntKind.wrap .u64 (Int.tdiv (IntKind.wrap .u64 (Int.tdiv (IntKind.wrap .u64 (Int.tdiv (IntKind.wrap .u64 (Int.tdiv (IntKind.wrap .u64 (Int.tdiv (IntKind.wrap .u64 v) 256)) 256)) 256)) 256)) 256)) 256)) 256)) 256)),Value.int .u8 (IntKind.wrap .u8 (Int.tmod (IntKind.wrap .u64 (Int.tdiv (IntKind.wrap .u64 (Int.tdiv (IntKind.wrap .u64 (Int.tdiv (IntKind.wrap .u64 (Int.tdiv (IntKind.wrap .u64 (Int.tdiv (IntKind.wrap .u64 (Int.tdiv (IntKind.wrap .u64 v) 256)) 256)) 256)) 256)) 256)) 256)) 256)),Value.int .u8 (IntKind.wrap .u8 (Int.tmod (IntKind.wrap .u64 (Int.tdiv (IntKind.wrap .u64 (Int.tdiv (IntKind.wrap .u64 (Int.tdiv (IntKind.wrap .u64 (Int.tdiv (IntKind.wrap .u64 (Int.tdiv (IntKind.wrap .u64 v) 256)) 256)) 256)) 256)) 256)) 256)),Value.int .u8 (IntKind.wrap .u8 (Int.tmod (IntKind.wrap .u64 (Int.tdiv (IntKind.wrap .u64 (Int.tdiv (IntKind.wrap .u64 (Int.tdiv (IntKind.wrap .u64 (Int.tdiv (IntKind.wrap .u64 v) 256)) 256)) 256)) 256)) 256)),Value.int .u8 (IntKind.wrap .u8 (Int.tmod (IntKind.wrap .u64 (Int.tdiv (IntKind.wrap .u64 (Int.tdiv (IntKind.wrap .u64 (Int.tdiv (IntKind.wrap .u64 v) 256)) 256)) 256)) 256)),Value.int .u8 (IntKind.wrap .u8 (Int.tmod (IntKind.wrap .u64 (Int.tdiv (IntKind.wrap .u64 (Int.tdiv (IntKind.wrap .u64 v) 256)) 256)) 256)),Value.int .u8 (IntKind.wrap .u8 (Int.tmod (IntKind.wrap .u64 (Int.tdiv (IntKind.wrap .u64 v) 256)) 256)),Value.int .u8 (IntKind.wrap .u8 (Int.tmod (IntKind.wrap .u64 v) 256))] 0)] 1 :=
 cameCF_of (O:=(True∧decide (v ≥ 0) = true)) (by kernel_rfl) ⟨trivial,h0⟩
theorem r66b_came (v : Int) (h0 : decide (v ≥ 0) = false) :
  RanC (runO Tryz.prog E1 (sm0) noRun 100 51 [Value.int .i64 v] (mkHp 0 []) [.skip 3,.b false] True) (.returned (Value.slice (some ⟨0,0,none⟩) 8 16)) [(0,AObj.cells [Value.int .u8 (IntKind.wrap .u8 (255 - IntKind.wrap .u8 (Int.tmod (IntKind.wrap .u64 (Int.tdiv (IntKind.wrap .u64 (Int.tdiv (IntKind.wrap .u64 (Int.tdiv (IntKind.wrap .u64 (Int.tdiv (IntKind.wrap .u64 (Int.tdiv (IntKind.wrap .u64 (Int.tdiv (IntKind.wrap .u64 (Int.tdiv (IntKind.wrap .u64 (IntKind.wrap .i64 (-1 - v))) 256)) 256)) 256)) 256)) 256)) 256)) 256)) 256))),Value.int .u8 (IntKind.wrap .u8 (255 - IntKind.wrap .u8 (Int.tmod (IntKind.wrap .u64 (Int.tdiv (IntKind.wrap .u64 (Int.tdiv (IntKind.wrap .u64 (Int.tdiv (IntKind.wrap .u64 (Int.tdiv (IntKind.wrap .u64 (Int.tdiv (IntKind.wrap .u64 (Int.tdiv (IntKind.wrap .u64 (IntKind.wrap .i64 (-1 - v))) 256)) 256)) 256)) 256)) 256)) 256)) 256))),Value.int .u8 (IntKind.wrap .u8 (255 - IntKind.wrap .u8 (Int.tmod (IntKind.wrap .u64 (Int.tdiv (IntKind.wrap .u64 (Int.tdiv (IntKind.wrap .u64 (Int.tdiv (IntKind.wrap .u64 (Int.tdiv (IntKind.wrap .u64 (Int.tdiv (IntKind.wrap .u64 (IntKind.wrap .i64 (-1 - v))) 256)) 256)) 256)) 256)) 256)) 256))),Value.int .u8 (IntKind.wrap .u8 (255 - IntKind.wrap .u8 (Int.tmod (IntKind.wrap .u64 (Int.tdiv (IntKind.wrap .u64 (Int.tdiv (IntKind.wrap .u64 (Int.tdiv (IntKind.wrap .u64 (Int.tdiv (IntKind.wrap .u64 (IntKind.wrap .i64 (-1 - v))) 256)) 256)) 256)) 256)) 256))),Value.int .u8 (IntKind.wrap .u8 (255 - IntKind.wrap .u8 (Int.tmod (IntKind.wrap .u64 (Int.tdiv (IntKind.wrap .u64 (Int.tdiv (IntKind.wrap .u64 (Int.tdiv (IntKind.wrap .u64 (IntKind.wrap .i64 (-1 - v))) 256)) 256)) 256)) 256))),Value.int .u8 (IntKind.wrap .u8 (255 - IntKind.wrap .u8 (Int.tmod (IntKind.wrap .u64 (Int.tdiv (IntKind.wrap .u64 (Int.tdiv (IntKind.wrap .u64 (IntKind.wrap .i64 (-1 - v))) 256)) 256)) 256))),Value.int .u8 (IntKind.wrap .u8 (255 - IntKind.wrap .u8 (Int.tmod (IntKind.wrap .u64 (Int.tdiv (IntKind.wrap .u64 (IntKind.wrap .i64 (-1 - v))) 256)) 256))),Value.int .u8 (IntKind.wrap .u8 (255 - IntKind.wrap .u8 (Int.tmod (IntKind.wrap .u64 (IntKind.wrap .i64 (-1 - v))) 256)))] 0)] 1 :=
 cameCF_of (O:=(True∧decide (v ≥ 0) = false)) (by kernel_rfl) ⟨trivial,h0⟩
theorem u64_wrap (n : Int) : IntKind.u64.wrap n = n % 18446744073709551616:=by unfold IntKind.wrap;simp [IntKind.signed,IntKind.bits]
theorem u8_wrap (n : Int) : IntKind.u8.wrap n = n % 256:=by unfold IntKind.wrap;simp [IntKind.signed,IntKind.bits]
theorem i64_id {n : Int} (h0 : -9223372036854775808 ≤ n) (h1 : n ≤ 9223372036854775807) : IntKind.i64.wrap n = n:=by
 have h2 : (2 : Int) ^ IntKind.i64.bits = 18446744073709551616:=by decide
 have h3 : (2 : Int) ^ (IntKind.i64.bits - 1) = 9223372036854775808:=by decide
 unfold IntKind.wrap
 rw [h2,h3]
 have hs : IntKind.i64.signed = true:=rfl
 simp only [hs,Bool.true_and]
 split
 ·rename_i h
  simp at h
  omega
 ·rename_i h
  simp at h
  omega
def st (n : Int) : Int:=IntKind.wrap IntKind.u64 (Int.tdiv n 256)
def cm (n : Int) : Int:=IntKind.wrap IntKind.u8 (255 - n)
def lo (n : Int) : Int:=IntKind.wrap IntKind.u8 (Int.tmod n 256)
theorem st_eq {n : Int} (h0 : 0 ≤ n) (h1 : n < 18446744073709551616) : st n = n / 256:=by
 unfold st;rw [u64_wrap,Int.tdiv_eq_ediv_of_nonneg h0,Int.emod_eq_of_lt] <;> omega
theorem lo_eq {n : Int} (h0 : 0 ≤ n) : lo n = n % 256:=by
 unfold lo;rw [u8_wrap,Int.tmod_eq_emod_of_nonneg h0];omega
theorem dig4 {n : Int} (h0 : 0 ≤ n) (h1 : n < 18446744073709551616) : lo (st (st (st n))) = n / 16777216 % 256∧lo (st (st n)) = n / 65536 % 256∧lo (st n) = n / 256 % 256∧lo n = n % 256:=by
 rw [st_eq h0 h1,st_eq (n:=n / 256) (by omega) (by omega),st_eq (n:=n / 256 / 256) (by omega) (by omega),lo_eq h0,lo_eq (by omega),lo_eq (by omega),lo_eq (by omega)]
 omega
theorem dig8 {n : Int} (h0 : 0 ≤ n) (h1 : n < 18446744073709551616) : lo (st (st (st (st (st (st (st n))))))) = n / 72057594037927936 % 256∧lo (st (st (st (st (st (st n)))))) = n / 281474976710656 % 256∧lo (st (st (st (st (st n))))) = n / 1099511627776 % 256∧lo (st (st (st (st n)))) = n / 4294967296 % 256:=by
 rw [st_eq h0 h1,st_eq (n:=n / 256) (by omega) (by omega),st_eq (n:=n / 256 / 256) (by omega) (by omega),st_eq (n:=n / 256 / 256 / 256) (by omega) (by omega),st_eq (n:=n / 256 / 256 / 256 / 256) (by omega) (by omega),st_eq (n:=n / 256 / 256 / 256 / 256 / 256) (by omega) (by omega),st_eq (n:=n / 256 / 256 / 256 / 256 / 256 / 256) (by omega) (by omega),lo_eq (by omega),lo_eq (by omega),lo_eq (by omega),lo_eq (by omega)]
 omega
theorem wb_eq (v d : Int) (h : 0 ≤ d) : IntKind.wrap IntKind.u8 (Int.fdiv (IntKind.wrap IntKind.u64 v) d) = v % 18446744073709551616 / d % 256:=by
 rw [u8_wrap,u64_wrap,Int.fdiv_eq_ediv_of_nonneg _ h]
theorem b1_eq (v : Int) : b1 v = [.int .u8 (v % 18446744073709551616 % 256)]:=by
 unfold b1;rw [wb_eq v 1 (by decide)];simp
theorem b4_eq (v : Int) : b4 v = [.int .u8 (v % 18446744073709551616 / 16777216 % 256),.int .u8 (v % 18446744073709551616 / 65536 % 256),.int .u8 (v % 18446744073709551616 / 256 % 256),.int .u8 (v % 18446744073709551616 % 256)]:=by
 unfold b4;rw [wb_eq v 16777216 (by decide),wb_eq v 65536 (by decide),wb_eq v 256 (by decide),wb_eq v 1 (by decide)];simp
theorem b8_eq (v : Int) : b8 v = .int .u8 (v % 18446744073709551616 / 72057594037927936 % 256) :: .int .u8 (v % 18446744073709551616 / 281474976710656 % 256) :: .int .u8 (v % 18446744073709551616 / 1099511627776 % 256) :: .int .u8 (v % 18446744073709551616 / 4294967296 % 256) :: b4 v:=by
 unfold b8;rw [wb_eq v 72057594037927936 (by decide),wb_eq v 281474976710656 (by decide),wb_eq v 1099511627776 (by decide),wb_eq v 4294967296 (by decide)]
def kR (arg : Value) (g : List Value) (k : Nat) : ConW:=⟨fun _ => [arg],[],fun σ => .slice (some ⟨σ 0,0,none⟩) k (2 * k),fun _ => [.cells g 0]⟩
theorem kR_ok {G : Prot → World → Prop} {f : Nat} {arg : Value} {g row : List Value} {k : Nat} {fuel : Nat} {orc : List Ans} (h : RanC (runO Tryz.prog E1 sm0 noRun fuel f [arg] (mkHp 0 []) orc True) (.returned (.slice (some ⟨0,0,none⟩) k (2 * k))) [(0,.cells row 0)] 1) (he : row = g) (hg : g.all isB = true) (ha : PlainC [arg]) (ha2 : ∀ ι ι' : Ren,conc ι arg = conc ι' arg) : ConWG G Tryz.prog f (kR arg g k):=by
 subst he
 refine conW_run hP1 (s:=sm0) (fun pr w0 _ => sm0_ok pr w0) h (by simp [kR,limit]) ⟨rfl,rfl,by simp,?_,by decide,(by decide : 0 ≤ 1)⟩ (fun x hx => (ha x hx).1 _) (by simp [kR]) (by intro ι ι' f g _;simp [kR,ha2 ι ι']) (by intro σ;simp [kR,upV]) (by intro σ;simp [kR,upO,(isB_plain hg).map]) rfl ?_
 ·intro p hp
  simp only [List.mem_cons,List.not_mem_nil,or_false] at hp
  subst hp
  exact ⟨by simp,fun v hv => (isB_plain hg v hv).1 _⟩
 ·intro j o hj
  match j,hj with
  | 0,hj => exact hj
  | j + 1,hj => simp [kR] at hj
theorem con60 {G : Prot → World → Prop} {v : Int} (h0 : -128 ≤ v) (h1 : v ≤ 127) : ConWG G Tryz.prog 45 (kR (.int .i8 v) (b1 v) 1):=by
 have hw:=i64_id (n:=v) (by omega) (by omega)
 by_cases h : v < 0
 ·exact kR_ok (r60b_came v (by rw [hw];simp [h])) (by rw [b1_eq,hw,i64_id (by omega) (by omega),u8_wrap];simp;try omega) rfl (plain_int _ _) (by simp)
 ·exact kR_ok (r60a_came v (by rw [hw];simp;omega)) (by rw [b1_eq,hw,u8_wrap];simp) rfl (plain_int _ _) (by simp)
theorem con87 {G : Prot → World → Prop} {v : Int} : ConWG G Tryz.prog 71 (kR (.int .u32 v) (b4 v) 4):=by
 have hN : 0 ≤ IntKind.wrap IntKind.u64 v∧IntKind.wrap IntKind.u64 v < 18446744073709551616:=by rw [u64_wrap];omega
 obtain ⟨e1,e2,e3,e4⟩:=dig4 hN.1 hN.2
 exact kR_ok (r87_came v) (by rw [b4_eq,← u64_wrap,← e1,← e2,← e3,← e4];rfl) rfl (plain_int _ _) (by simp)
theorem con64 {G : Prot → World → Prop} {v : Int} (h0 : -2147483648 ≤ v) (h1 : v ≤ 2147483647) : ConWG G Tryz.prog 49 (kR (.int .i32 v) (b4 v) 4):=by
 have hw:=i64_id (n:=v) (by omega) (by omega)
 by_cases h : v < 0
 ·have hN : 0 ≤ IntKind.wrap IntKind.u64 (v + 4294967296)∧IntKind.wrap IntKind.u64 (v + 4294967296) < 18446744073709551616:=by rw [u64_wrap];omega
  obtain ⟨e1,e2,e3,e4⟩:=dig4 hN.1 hN.2
  have hc:=r64b_came v (by rw [hw];simp [h])
  rw [hw,i64_id (n:=v + 4294967296) (by omega) (by omega)] at hc
  refine kR_ok hc (?_ : [Value.int .u8 (lo (st (st (st (IntKind.wrap IntKind.u64 (v + 4294967296)))))),.int .u8 (lo (st (st (IntKind.wrap IntKind.u64 (v + 4294967296))))),.int .u8 (lo (st (IntKind.wrap IntKind.u64 (v + 4294967296)))),.int .u8 (lo (IntKind.wrap IntKind.u64 (v + 4294967296)))] = b4 v) rfl (plain_int _ _) (by simp)
  rw [b4_eq,e1,e2,e3,e4,u64_wrap]
  simp only [List.cons.injEq,Value.int.injEq,true_and,and_true]
  omega
 ·have hN : 0 ≤ IntKind.wrap IntKind.u64 v∧IntKind.wrap IntKind.u64 v < 18446744073709551616:=by rw [u64_wrap];omega
  obtain ⟨e1,e2,e3,e4⟩:=dig4 hN.1 hN.2
  have hc:=r64a_came v (by rw [hw];simp;omega)
  rw [hw] at hc
  exact kR_ok hc (by rw [b4_eq,← u64_wrap,← e1,← e2,← e3,← e4];rfl) rfl (plain_int _ _) (by simp)
theorem con66 {G : Prot → World → Prop} {v : Int} (h0 : -9223372036854775808 ≤ v) (h1 : v ≤ 9223372036854775807) : ConWG G Tryz.prog 51 (kR (.int .i64 v) (b8 v) 8):=by
 by_cases h : v < 0
 ·have hN : 0 ≤ IntKind.wrap IntKind.u64 (-1 - v)∧IntKind.wrap IntKind.u64 (-1 - v) < 18446744073709551616:=by rw [u64_wrap];omega
  obtain ⟨e1,e2,e3,e4⟩:=dig4 hN.1 hN.2
  obtain ⟨e5,e6,e7,e8⟩:=dig8 hN.1 hN.2
  have hc:=r66b_came v (by simp;omega)
  rw [i64_id (n:=-1 - v) (by omega) (by omega)] at hc
  refine kR_ok hc (?_ : [Value.int .u8 (cm (lo (st (st (st (st (st (st (st (IntKind.wrap IntKind.u64 (-1 - v))))))))))),Value.int .u8 (cm (lo (st (st (st (st (st (st (IntKind.wrap IntKind.u64 (-1 - v)))))))))),Value.int .u8 (cm (lo (st (st (st (st (st (IntKind.wrap IntKind.u64 (-1 - v))))))))),Value.int .u8 (cm (lo (st (st (st (st (IntKind.wrap IntKind.u64 (-1 - v)))))))),Value.int .u8 (cm (lo (st (st (st (IntKind.wrap IntKind.u64 (-1 - v))))))),Value.int .u8 (cm (lo (st (st (IntKind.wrap IntKind.u64 (-1 - v)))))),Value.int .u8 (cm (lo (st (IntKind.wrap IntKind.u64 (-1 - v))))),Value.int .u8 (cm (lo (IntKind.wrap IntKind.u64 (-1 - v))))] = b8 v) rfl (plain_int _ _) (by simp)
  rw [b8_eq,b4_eq,e1,e2,e3,e4,e5,e6,e7,e8,u64_wrap]
  simp only [cm,u8_wrap,List.cons.injEq,Value.int.injEq,true_and,and_true]
  omega
 ·have hN : 0 ≤ IntKind.wrap IntKind.u64 v∧IntKind.wrap IntKind.u64 v < 18446744073709551616:=by rw [u64_wrap];omega
  obtain ⟨e1,e2,e3,e4⟩:=dig4 hN.1 hN.2
  obtain ⟨e5,e6,e7,e8⟩:=dig8 hN.1 hN.2
  have hc:=r66a_came v (by simp;omega)
  exact kR_ok hc (by rw [b8_eq,b4_eq,← u64_wrap,← e1,← e2,← e3,← e4,← e5,← e6,← e7,← e8];rfl) rfl (plain_int _ _) (by simp)
end Go.Abs
end
section
namespace Go.Abs
open Go.Proofs
set_option maxRecDepth 100000
def tJ (R n c m c2 k : Nat) : List (Nat × Value):=[(0,.slice (some ⟨R,0,none⟩) n c),(1,.slice (some ⟨1,0,none⟩) m c2),(5,.int .i64 k)]
def oJ0 (e e2 : Nat) (us ps : List Value) : List (Nat × AObj):=[(0,.cells us e),(1,.cells ps e2)]
def oJ (o0 : AObj) (e2 : Nat) (ps row : List Value) : List (Nat × AObj):=[(0,o0),(1,.cells ps e2),(2,.cells row 1)]
def t63 (R n c k : Nat) : List (Nat × Value):=[(0,.chan (some 1)),(3,.slice (some ⟨R,0,none⟩) n c),(4,.int .i64 k)]
def o63a (m : Nat) (vs row : List Value) : List (Nat × AObj):=[(0,.rov vs),(1,.word m 0),(2,.cells row 0)]
def o63 (m : Nat) (vs row : List Value) (e : Nat) : List (Nat × AObj):=[(0,.rov vs),(1,.word m 0),(3,.cells row e)]
theorem j0a_came (n : Nat) (c : Nat) (m : Nat) (c2 : Nat) (k : Nat) (e : Nat) (e2 : Nat) (us : List Value) (ps : List Value) (x : Int) (h0 : decide ((↑k : Int) < (↑m : Int)) = true) (h1 : 0 ≤ (↑k : Int)∧(↑k : Int) < (↑m : Int)) (h2 : ps[0 + Int.toNat (↑k : Int) * 1]? = some (Value.int .u8 x)) (h3 : 1 ≤ 1∧0 + n * 1 ≤ List.length us∧capOf c < n + 1∧(n + 1) * 1 ≤ 140737488355328∧n + 1 ≤ 4611686018427387904∧List.length (List.take (n * 1) (List.drop 0 us)) = n * 1∧1 = 1∧true = true∧capOpen c = false) :
  Ran (codeO Tryz.prog E1 (sm0) noRun 100 46 [0,0,1,0,1] (codeAt Tryz.f46 [0,0,1,0,1]) (mkFr 20 (tJ 0 n c m c2 k)) (mkHp 2 (oJ0 e e2 us ps)) [.skip 4,.b true,.skip 3,.sym,.v (Value.int .u8 x),.skip 1,.grow false] True) (Exit.normal) 20 [(0,Value.slice (some ⟨3,0,none⟩) (n + 1) (2 * (n + 1) + 1)),(1,Value.slice (some ⟨1,0,none⟩) m c2),(5,Value.int .i64 (IntKind.wrap .i64 ((↑k : Int) + 1)))] [(0,AObj.cells us e),(1,AObj.cells ps e2),(2,AObj.cells [Value.int .u8 x] 0),(3,AObj.cells (List.take (n * 1) (List.drop 0 us) ++ List.take 1 (List.drop 0 [Value.int .u8 x])) 1)] 4 :=
 cameF_of (O:=((((True∧decide ((↑k : Int) < (↑m : Int)) = true)∧0 ≤ (↑k : Int)∧(↑k : Int) < (↑m : Int))∧ps[0 + Int.toNat (↑k : Int) * 1]? = some (Value.int .u8 x))∧1 ≤ 1∧0 + n * 1 ≤ List.length us∧capOf c < n + 1∧(n + 1) * 1 ≤ 140737488355328∧n + 1 ≤ 4611686018427387904∧List.length (List.take (n * 1) (List.drop 0 us)) = n * 1∧1 = 1∧true = true∧capOpen c = false)) (by kernel_rfl) ⟨⟨⟨⟨trivial,h0⟩,h1⟩,h2⟩,h3⟩
theorem j0b_came (n : Nat) (c : Nat) (m : Nat) (c2 : Nat) (k : Nat) (e2 : Nat) (us : List Value) (ps : List Value) (x : Int) (h0 : decide ((↑k : Int) < (↑m : Int)) = true) (h1 : 0 ≤ (↑k : Int)∧(↑k : Int) < (↑m : Int)) (h2 : ps[0 + Int.toNat (↑k : Int) * 1]? = some (Value.int .u8 x)) (h3 : 1 ≤ 1∧0 + n * 1 ≤ List.length us∧capOf c < n + 1∧(n + 1) * 1 ≤ 140737488355328∧n + 1 ≤ 4611686018427387904∧List.length (List.take (n * 1) (List.drop 0 us)) = n * 1∧1 = 1∧true = true∧capOpen c = true∧1 = 1∧0 + capOf c * 1 = List.length us) :
  Ran (codeO Tryz.prog E1 (sm0) noRun 100 46 [0,0,1,0,1] (codeAt Tryz.f46 [0,0,1,0,1]) (mkFr 20 (tJ 0 n c m c2 k)) (mkHp 2 (oJ0 1 e2 us ps)) [.skip 4,.b true,.skip 3,.sym,.v (Value.int .u8 x),.skip 1,.grow true] True) (Exit.normal) 20 [(0,Value.slice (some ⟨3,0,none⟩) (n + 1) (2 * (n + 1) + 1)),(1,Value.slice (some ⟨1,0,none⟩) m c2),(5,Value.int .i64 (IntKind.wrap .i64 ((↑k : Int) + 1)))] [(0,AObj.dead),(1,AObj.cells ps e2),(2,AObj.cells [Value.int .u8 x] 0),(3,AObj.cells (List.take (n * 1) (List.drop 0 us) ++ List.take 1 (List.drop 0 [Value.int .u8 x])) 1)] 4 :=
 cameF_of (O:=((((True∧decide ((↑k : Int) < (↑m : Int)) = true)∧0 ≤ (↑k : Int)∧(↑k : Int) < (↑m : Int))∧ps[0 + Int.toNat (↑k : Int) * 1]? = some (Value.int .u8 x))∧1 ≤ 1∧0 + n * 1 ≤ List.length us∧capOf c < n + 1∧(n + 1) * 1 ≤ 140737488355328∧n + 1 ≤ 4611686018427387904∧List.length (List.take (n * 1) (List.drop 0 us)) = n * 1∧1 = 1∧true = true∧capOpen c = true∧1 = 1∧0 + capOf c * 1 = List.length us)) (by kernel_rfl) ⟨⟨⟨⟨trivial,h0⟩,h1⟩,h2⟩,h3⟩
theorem j1_came (n : Nat) (c : Nat) (m : Nat) (c2 : Nat) (k : Nat) (e2 : Nat) (o0 : AObj) (ps : List Value) (row : List Value) (x : Int) (h0 : decide ((↑k : Int) < (↑m : Int)) = true) (h1 : 0 ≤ (↑k : Int)∧(↑k : Int) < (↑m : Int)) (h2 : ps[0 + Int.toNat (↑k : Int) * 1]? = some (Value.int .u8 x)) (h3 : 1 ≤ 1∧0 + n * 1 ≤ List.length row∧capOf c < n + 1∧(n + 1) * 1 ≤ 140737488355328∧n + 1 ≤ 4611686018427387904∧List.length (List.take (n * 1) (List.drop 0 row)) = n * 1∧1 = 1∧true = true∧capOpen c = true∧1 = 1∧0 + capOf c * 1 = List.length row) :
  Ran (codeO Tryz.prog E1 (sm0) noRun 100 46 [0,0,1,0,1] (codeAt Tryz.f46 [0,0,1,0,1]) (mkFr 20 (tJ 2 n c m c2 k)) (mkHp 3 (oJ o0 e2 ps row)) [.skip 4,.b true,.skip 3,.sym,.v (Value.int .u8 x),.skip 1,.grow true] True) (Exit.normal) 20 [(0,Value.slice (some ⟨4,0,none⟩) (n + 1) (2 * (n + 1) + 1)),(1,Value.slice (some ⟨1,0,none⟩) m c2),(5,Value.int .i64 (IntKind.wrap .i64 ((↑k : Int) + 1)))] [(0,o0),(1,AObj.cells ps e2),(2,AObj.dead),(3,AObj.cells [Value.int .u8 x] 0),(4,AObj.cells (List.take (n * 1) (List.drop 0 row) ++ List.take 1 (List.drop 0 [Value.int .u8 x])) 1)] 5 :=
 cameF_of (O:=((((True∧decide ((↑k : Int) < (↑m : Int)) = true)∧0 ≤ (↑k : Int)∧(↑k : Int) < (↑m : Int))∧ps[0 + Int.toNat (↑k : Int) * 1]? = some (Value.int .u8 x))∧1 ≤ 1∧0 + n * 1 ≤ List.length row∧capOf c < n + 1∧(n + 1) * 1 ≤ 140737488355328∧n + 1 ≤ 4611686018427387904∧List.length (List.take (n * 1) (List.drop 0 row)) = n * 1∧1 = 1∧true = true∧capOpen c = true∧1 = 1∧0 + capOf c * 1 = List.length row)) (by kernel_rfl) ⟨⟨⟨⟨trivial,h0⟩,h1⟩,h2⟩,h3⟩
theorem j2_came (n : Nat) (c : Nat) (m : Nat) (c2 : Nat) (k : Nat) (e2 : Nat) (o0 : AObj) (ps : List Value) (row : List Value) (h0 : decide ((↑k : Int) < (↑m : Int)) = false) :
  Ran (codeO Tryz.prog E1 (sm0) noRun 100 46 [0,0,1,0,1] (codeAt Tryz.f46 [0,0,1,0,1]) (mkFr 20 (tJ 2 n c m c2 k)) (mkHp 3 (oJ o0 e2 ps row)) [.skip 4,.b false] True) (Exit.exit 0) 20 [(0,Value.slice (some ⟨2,0,none⟩) n c),(1,Value.slice (some ⟨1,0,none⟩) m c2),(5,Value.int .i64 (↑k : Int))] [(0,o0),(1,AObj.cells ps e2),(2,AObj.cells row 1)] 3 :=
 cameF_of (O:=(True∧decide ((↑k : Int) < (↑m : Int)) = false)) (by kernel_rfl) ⟨trivial,h0⟩
theorem b0_came (m : Nat) (k : Nat) (vs : List Value) (row : List Value) (x : Int) (h0 : decide ((↑k : Int) < (↑m : Int)) = true) (h1 : 0 ≤ (↑k : Int)∧(↑k : Int) < (↑m : Int)) (h2 : vs[0 + Int.toNat (↑k : Int) * 1]? = some (Value.int .u8 x)) (h3 : 1 ≤ 1∧4 ≤ List.length row∧4 < 5∧5 ≤ 140737488355328∧5 ≤ 4611686018427387904∧List.length (List.take 4 (List.drop 0 row)) = 4∧1 = 1∧true = true∧false = false) :
  Ran (codeO Tryz.prog E1 (sm0) noRun 100 48 [0,0,1,0,1,1] (codeAt Tryz.f48 [0,0,1,0,1,1]) (mkFr 23 (t63 2 4 8 k)) (mkHp 3 (o63a m vs row)) [.skip 4,.b true,.skip 3,.sym,.v (Value.int .u8 x),.skip 1,.grow false] True) (Exit.normal) 23 [(0,Value.chan (some 1)),(3,Value.slice (some ⟨4,0,none⟩) 5 11),(4,Value.int .i64 (IntKind.wrap .i64 ((↑k : Int) + 1)))] [(0,AObj.rov vs),(1,AObj.word m 0),(2,AObj.cells row 0),(3,AObj.cells [Value.int .u8 x] 0),(4,AObj.cells (List.take 4 (List.drop 0 row) ++ List.take 1 (List.drop 0 [Value.int .u8 x])) 1)] 5 :=
 cameF_of (O:=((((True∧decide ((↑k : Int) < (↑m : Int)) = true)∧0 ≤ (↑k : Int)∧(↑k : Int) < (↑m : Int))∧vs[0 + Int.toNat (↑k : Int) * 1]? = some (Value.int .u8 x))∧1 ≤ 1∧4 ≤ List.length row∧4 < 5∧5 ≤ 140737488355328∧5 ≤ 4611686018427387904∧List.length (List.take 4 (List.drop 0 row)) = 4∧1 = 1∧true = true∧false = false)) (by kernel_rfl) ⟨⟨⟨⟨trivial,h0⟩,h1⟩,h2⟩,h3⟩
theorem b0e_came (m : Nat) (k : Nat) (vs : List Value) (row : List Value) (h0 : decide ((↑k : Int) < (↑m : Int)) = false) :
  Ran (codeO Tryz.prog E1 (sm0) noRun 100 48 [0,0,1,0,1,1] (codeAt Tryz.f48 [0,0,1,0,1,1]) (mkFr 23 (t63 2 4 8 k)) (mkHp 3 (o63a m vs row)) [.skip 4,.b false] True) (Exit.exit 0) 23 [(3,Value.slice (some ⟨2,0,none⟩) 4 8)] [(0,AObj.rov vs),(1,AObj.word m 0),(2,AObj.cells row 0)] 3 :=
 cameF_of (O:=(True∧decide ((↑k : Int) < (↑m : Int)) = false)) (by kernel_rfl) ⟨trivial,h0⟩
theorem b1r_came (n : Nat) (c : Nat) (m : Nat) (k : Nat) (vs : List Value) (row : List Value) (x : Int) (h0 : decide ((↑k : Int) < (↑m : Int)) = true) (h1 : 0 ≤ (↑k : Int)∧(↑k : Int) < (↑m : Int)) (h2 : vs[0 + Int.toNat (↑k : Int) * 1]? = some (Value.int .u8 x)) (h3 : 1 ≤ 1∧0 + n * 1 ≤ List.length row∧capOf c < n + 1∧(n + 1) * 1 ≤ 140737488355328∧n + 1 ≤ 4611686018427387904∧List.length (List.take (n * 1) (List.drop 0 row)) = n * 1∧1 = 1∧true = true∧capOpen c = true∧1 = 1∧0 + capOf c * 1 = List.length row) :
  Ran (codeO Tryz.prog E1 (sm0) noRun 100 48 [0,0,1,0,1,1] (codeAt Tryz.f48 [0,0,1,0,1,1]) (mkFr 23 (t63 3 n c k)) (mkHp 4 (o63 m vs row 1)) [.skip 4,.b true,.skip 3,.sym,.v (Value.int .u8 x),.skip 1,.grow true] True) (Exit.normal) 23 [(0,Value.chan (some 1)),(3,Value.slice (some ⟨5,0,none⟩) (n + 1) (2 * (n + 1) + 1)),(4,Value.int .i64 (IntKind.wrap .i64 ((↑k : Int) + 1)))] [(0,AObj.rov vs),(1,AObj.word m 0),(3,AObj.dead),(4,AObj.cells [Value.int .u8 x] 0),(5,AObj.cells (List.take (n * 1) (List.drop 0 row) ++ List.take 1 (List.drop 0 [Value.int .u8 x])) 1)] 6 :=
 cameF_of (O:=((((True∧decide ((↑k : Int) < (↑m : Int)) = true)∧0 ≤ (↑k : Int)∧(↑k : Int) < (↑m : Int))∧vs[0 + Int.toNat (↑k : Int) * 1]? = some (Value.int .u8 x))∧1 ≤ 1∧0 + n * 1 ≤ List.length row∧capOf c < n + 1∧(n + 1) * 1 ≤ 140737488355328∧n + 1 ≤ 4611686018427387904∧List.length (List.take (n * 1) (List.drop 0 row)) = n * 1∧1 = 1∧true = true∧capOpen c = true∧1 = 1∧0 + capOf c * 1 = List.length row)) (by kernel_rfl) ⟨⟨⟨⟨trivial,h0⟩,h1⟩,h2⟩,h3⟩
theorem b1e_came (n : Nat) (c : Nat) (m : Nat) (k : Nat) (vs : List Value) (row : List Value) (h0 : decide ((↑k : Int) < (↑m : Int)) = false) :
  Ran (codeO Tryz.prog E1 (sm0) noRun 100 48 [0,0,1,0,1,1] (codeAt Tryz.f48 [0,0,1,0,1,1]) (mkFr 23 (t63 3 n c k)) (mkHp 4 (o63 m vs row 1)) [.skip 4,.b false] True) (Exit.exit 0) 23 [(3,Value.slice (some ⟨3,0,none⟩) n c)] [(0,AObj.rov vs),(1,AObj.word m 0),(3,AObj.cells row 1)] 4 :=
 cameF_of (O:=(True∧decide ((↑k : Int) < (↑m : Int)) = false)) (by kernel_rfl) ⟨trivial,h0⟩
def qJ (n c m c2 e e2 : Nat) (us ps : List Value) (o0 : AObj) : Sm:=withL sm0 46 [1,0,1] (piece 20 (tJ 0 n c m c2 0) (oJ0 e e2 us ps) 2 .normal (mkFr 20 [(0,.slice (some ⟨2,0,none⟩) (n + m) (2 * (n + m) + 1))]) (mkHp 3 (oJ o0 e2 ps (us ++ ps))))
theorem cJ_came (n : Nat) (c : Nat) (m : Nat) (c2 : Nat) (e : Nat) (e2 : Nat) (us : List Value) (ps : List Value) (o0 : AObj)  :
  RanC (runO Tryz.prog E1 (qJ n c m c2 e e2 us ps o0) noRun 100 46 [Value.slice (some ⟨0,0,none⟩) n c,Value.slice (some ⟨1,0,none⟩) m c2] (mkHp 2 (oJ0 e e2 us ps)) [] True) (.returned (Value.slice (some ⟨2,0,none⟩) (n + m) (2 * (n + m) + 1))) [(0,o0),(1,AObj.cells ps e2),(2,AObj.cells (us ++ ps) 1)] 3 :=
 cameCF_of (O:=(True∧SelfP 20 (tJ 0 n c m c2 0) (oJ0 e e2 us ps) 2)) (by kernel_rfl) ⟨trivial,selfP_true _ _ _ _⟩
def kJ (n c m c2 e e2 : Nat) (us ps : List Value) (o0 : AObj) : ConL:=⟨fun σ => [.slice (some ⟨σ 0,0,none⟩) n c,.slice (some ⟨σ 1,0,none⟩) m c2],fun σ => [(0,.cells us e),(1,.cells ps e2)],2,fun σ => .slice (some ⟨σ 2,0,none⟩) (n + m) (2 * (n + m) + 1),fun σ => [(0,o0),(1,.cells ps e2)],fun σ => [.cells (us ++ ps) 1]⟩
theorem take_app (us : List Value) (x : Value) (n : Nat) (h : us.length = n) : List.take (n * 1) (List.drop 0 us) ++ List.take 1 (List.drop 0 [x]) = us ++ [x]:=by
 rw [Nat.mul_one,List.drop_zero,List.take_of_length_le (by omega)];rfl
theorem bv_take {ds : List Int} {k : Nat} (h : k < ds.length) : bv (ds.take (k + 1)) = bv (ds.take k) ++ [.int .u8 (ds.getD k 0)]:=by
 rw [bv,bv,List.take_add_one,getD_some h,List.map_append];rfl
theorem conJ {n c m c2 e e2 : Nat} {us : List Value} {ds : List Int} {o0 : AObj} (hl : us.length = n) (hu : us.all isB = true) (hm : ds.length = m) (hm1 : 1 ≤ m) (hb : n + m ≤ 70368744177664)
  (hc : (c = 2 * n∧o0 = .cells us e) ∨ (c = 2 * n + 1∧e = 1∧o0 = .dead)) : ConLG GT Tryz.prog 46 (kJ n c m c2 e e2 us (bv ds) o0):=by
 subst hl hm
 have pu:=isB_plain hu
 have pd:=isB_plain (bv_isB ds)
 have hp0 : (∀ N,BdO N o0)∧∀ σ,upO σ o0 = o0:=by
  rcases hc with ⟨_,rfl⟩ | ⟨_,_,rfl⟩
  ·exact ⟨fun N v hv => (pu v hv).1 _,fun σ => by simp [upO,pu.map]⟩
  ·exact ⟨fun N => trivial,fun σ => rfl⟩
 have hrowb : ∀ k,(us ++ bv (ds.take k)).all isB = true:=fun k => by rw [List.all_append,hu,bv_isB];rfl
 have hrowl : ∀ k,k ≤ ds.length → (us ++ bv (ds.take k)).length = us.length + k:=fun k hk => by simp [bv_len];omega
 have hrows : ∀ k,k < ds.length → (us ++ bv (ds.take k)) ++ [Value.int .u8 (ds.getD k 0)] = us ++ bv (ds.take (k + 1)):=fun k hk => by rw [bv_take hk,List.append_assoc]
 have hoJ : ∀ k,∀ p ∈ oJ o0 e2 (bv ds) (us ++ bv (ds.take k)),p.1 < 3∧BdO 3 p.2:=by
  intro k p hp
  simp only [oJ,List.mem_cons,List.not_mem_nil,or_false] at hp
  rcases hp with rfl | rfl | rfl
  ·exact ⟨by simp,hp0.1 _⟩
  ·exact ⟨by simp,fun v hv => (pd v hv).1 _⟩
  ·exact ⟨by simp,fun v hv => (isB_plain (hrowb k) v hv).1 _⟩
 have hoJ0 : ∀ p ∈ oJ0 e e2 us (bv ds),p.1 < 2∧BdO 2 p.2:=by
  intro p hp
  simp only [oJ0,List.mem_cons,List.not_mem_nil,or_false] at hp
  rcases hp with rfl | rfl
  ·exact ⟨by simp,fun v hv => (pu v hv).1 _⟩
  ·exact ⟨by simp,fun v hv => (pd v hv).1 _⟩
 have hF3 : ∀ k ts,(∀ p ∈ ts,Bd 3 p.2) → smallN ts = true → Fits 2 ts (oJ o0 e2 (bv ds) (us ++ bv (ds.take k))) 3:=fun k ts h1 h2 => ⟨h2,rfl,h1,hoJ k,by decide,by decide⟩
 have hbody : ∀ pr w0,PieceOk Tryz.prog pr w0 0 (.block 0 (.loop (codeAt Tryz.f46 [0,0,1,0,1]))) (piece 20 (tJ 0 us.length c ds.length c2 0) (oJ0 e e2 us (bv ds)) 2 .normal (mkFr 20 [(0,.slice (some ⟨2,0,none⟩) (us.length + ds.length) (2 * (us.length + ds.length) + 1))]) (mkHp 3 (oJ o0 e2 (bv ds) (us ++ bv ds)))):=by
  intro pr w0
  refine block_end ⟨rfl,rfl,by simp [tJ],hoJ0,by decide,by decide⟩ ?_
  have hh : Here E1 46 [0,0,1,0,1] (codeAt Tryz.f46 [0,0,1,0,1]):=codeAt_here (fn:=Tryz.f46) (by kernel_rfl) (by kernel_rfl)
  have h0L:=rounds_tri (P:=Tryz.prog) (pr:=pr) (w0:=w0) (T:={ k : Nat // k ≤ ds.length }) ⟨20,fun t => match t.1 with
    | 0 => tJ 0 us.length c ds.length c2 0
    | k + 1 => tJ 2 (us.length + (k + 1)) (2 * (us.length + (k + 1)) + 1) ds.length c2 (k + 1),fun t => match t.1 with
    | 0 => oJ0 e e2 us (bv ds)
    | k + 1 => oJ o0 e2 (bv ds) (us ++ bv (ds.take (k + 1))),fun t => match t.1 with
    | 0 => 2
    | k + 1 => 3,fun t => ds.length - t.1⟩ (N:=2) (c:=codeAt Tryz.f46 [0,0,1,0,1]) (Ψ:=fun e f μ => e = .exit 0∧f = mkFr 20 [(0,.slice (some ⟨2,0,none⟩) (us.length + ds.length) (2 * (us.length + ds.length) + 1))]∧μ = mkHp 3 (oJ o0 e2 (bv ds) (us ++ bv ds))) ?_ ⟨0,Nat.zero_le _⟩
  ·exact h0L
  ·rintro ⟨k,hk⟩
   have via : ∀ (k r : Nat) (σ : Nat → Nat),σ = (fun n => if n = 2 then r else n) → 2 ≤ r → (∀ p ∈ oJ o0 e2 (bv ds) (us ++ bv (ds.take k)),∀ q ∈ oJ o0 e2 (bv ds) (us ++ bv (ds.take k)),p.1 ≠ q.1 → σ p.1 ≠ σ q.1):=by
    rintro k r σ rfl hr p hp q hq hne
    simp only [oJ,List.mem_cons,List.not_mem_nil,or_false] at hp hq
    rcases hp with rfl | rfl | rfl <;> rcases hq with rfl | rfl | rfl <;> simp at hne ⊢ <;> omega
   cases k with
   | zero =>
    have hlt : 0 < ds.length:=by omega
    have key : ∃ (os1 : List (Nat × AObj)) (n1 : Nat) (orc : List Ans),Ran (codeO Tryz.prog E1 sm0 noRun 100 46 [0,0,1,0,1] (codeAt Tryz.f46 [0,0,1,0,1]) (mkFr 20 (tJ 0 us.length c ds.length c2 0)) (mkHp 2 (oJ0 e e2 us (bv ds))) orc True) .normal 20 [(0,.slice (some ⟨3,0,none⟩) (us.length + 1) (2 * (us.length + 1) + 1)),(1,.slice (some ⟨1,0,none⟩) ds.length c2),(5,.int .i64 ((1 : Nat) : Int))] os1 n1 ∧
      (0,o0) ∈ os1∧(1,AObj.cells (bv ds) e2) ∈ os1∧(3,AObj.cells (us ++ [Value.int .u8 (ds.getD 0 0)]) 1) ∈ os1:=by
     rcases hc with ⟨rfl,rfl⟩ | ⟨rfl,rfl,rfl⟩
     ·have hcc:=j0a_came us.length (2 * us.length) ds.length c2 0 e e2 us (bv ds) (ds.getD 0 0) (by simp;omega) (by omega) (by rw [Int.toNat_natCast];exact bv_get hlt) ⟨by omega,by omega,by unfold capOf;omega,by omega,by omega,by rw [List.length_take,List.length_drop];omega,rfl,rfl,by unfold capOpen;rw [show (2 * us.length) % 2 = 0 by omega];rfl⟩
      rw [take_app _ _ _ rfl,i64_succ (by omega)] at hcc
      exact ⟨_,_,_,hcc,List.mem_cons_self ..,by simp,by simp⟩
     ·have hcc:=j0b_came us.length (2 * us.length + 1) ds.length c2 0 e2 us (bv ds) (ds.getD 0 0) (by simp;omega) (by omega) (by rw [Int.toNat_natCast];exact bv_get hlt) ⟨by omega,by omega,by rw [capOf_open];omega,by omega,by omega,by rw [List.length_take,List.length_drop];omega,rfl,rfl,capOpen_open _,rfl,by rw [capOf_open];omega⟩
      rw [take_app _ _ _ rfl,i64_succ (by omega)] at hcc
      exact ⟨_,_,_,hcc,List.mem_cons_self ..,by simp,by simp⟩
    obtain ⟨os1,n1,orc,hcc,h0,h1,h3⟩:=key
    refine on_via hP1 (sm0_ok pr w0) hh hcc (fun n => if n = 2 then 3 else n) ⟨1,hlt⟩ ?_ ?_ (via 1 3 _ rfl (by omega)) (fun m hm => by rw [if_neg (by omega)]) (by simp only;omega) (hF3 1 _ (by simp [tJ]) rfl)
    ·intro p hp
     simp only [tJ,List.mem_cons,List.not_mem_nil,or_false] at hp
     rcases hp with rfl | rfl | rfl <;> simp [upV]
    ·intro p hp
     simp only [oJ,List.mem_cons,List.not_mem_nil,or_false] at hp
     rcases hp with rfl | rfl | rfl
     ·simpa [hp0.2] using h0
     ·simpa [upO,pd.map] using h1
     ·have:=hrows 0 hlt
      simp only [List.take_zero,show bv [] = [] from rfl,List.append_nil] at this
      rw [this] at h3
      simpa [upO,(isB_plain (hrowb 1)).map] using h3
   | succ k =>
    by_cases hlt : k + 1 < ds.length
    ·have hl:=hrowl (k + 1) hk
     have hcc:=j1_came (us.length + (k + 1)) (2 * (us.length + (k + 1)) + 1) ds.length c2 (k + 1) e2 o0 (bv ds) (us ++ bv (ds.take (k + 1))) (ds.getD (k + 1) 0) (by simp;omega) (by omega) (by rw [Int.toNat_natCast];exact bv_get hlt) ⟨by omega,by omega,by rw [capOf_open];omega,by omega,by omega,by rw [List.length_take,List.length_drop];omega,rfl,rfl,capOpen_open _,rfl,by rw [capOf_open];omega⟩
     rw [take_app _ _ _ hl,i64_succ (by omega),hrows (k + 1) hlt] at hcc
     refine on_via hP1 (sm0_ok pr w0) hh hcc (fun n => if n = 2 then 4 else n) ⟨k + 1 + 1,hlt⟩ ?_ ?_ (via (k + 1 + 1) 4 _ rfl (by omega)) (fun m hm => by rw [if_neg (by omega)]) (by simp only;omega) (hF3 _ _ (by simp [tJ]) rfl)
     ·intro p hp
      simp only [tJ,List.mem_cons,List.not_mem_nil,or_false] at hp
      rcases hp with rfl | rfl | rfl <;> simp [upV] <;> omega
     ·intro p hp
      simp only [oJ,List.mem_cons,List.not_mem_nil,or_false] at hp
      rcases hp with rfl | rfl | rfl
      ·simp [hp0.2]
      ·simp [upO,pd.map]
      ·simp only [upO,(isB_plain (hrowb (k + 1 + 1))).map,if_true];simp
    ·have he : k + 1 = ds.length:=by omega
     have hcc:=cut_came (j2_came (us.length + (k + 1)) (2 * (us.length + (k + 1)) + 1) ds.length c2 (k + 1) e2 o0 (bv ds) (us ++ bv (ds.take (k + 1))) (by simp;omega)) (ts':=[(0,.slice (some ⟨2,0,none⟩) (us.length + (k + 1)) (2 * (us.length + (k + 1)) + 1))]) (by simp)
     refine out_came hP1 (sm0_ok pr w0) hh hcc (by simp) (by simp) (hF3 (k + 1) _ (by simp) rfl) ⟨rfl,?_,?_⟩
     ·rw [he]
     ·rw [he,List.take_length];rfl
 have hoE : ∀ p ∈ [(0,o0),(1,AObj.cells (bv ds) e2),(2,AObj.cells (us ++ bv ds) 1)],p.1 < 3∧BdO 3 p.2:=by
  have:=hoJ ds.length
  rw [List.take_length] at this
  exact this
 have pj : PlainC (us ++ bv ds):=by
  have:=isB_plain (hrowb ds.length)
  rwa [List.take_length] at this
 refine conL_run hP1 (fun pr w0 _ => withL_ok (sm0_ok pr w0) (fn:=Tryz.f46) (c:=.block 0 (.loop (codeAt Tryz.f46 [0,0,1,0,1]))) (by kernel_rfl) (by kernel_rfl) (hbody pr w0)) (cJ_came us.length c ds.length c2 e e2 us (bv ds) o0)
  ⟨rfl,rfl,by simp,hoJ0,(by decide : 2 ≤ limit),(by decide : 2 ≤ 2)⟩ ⟨rfl,rfl,by simp,hoE,by decide,(by decide : 2 ≤ 3)⟩ (by simp [kJ]) (by simp [kJ]) ?_ ?_ (by intro σ;simp [kJ,upV]) (by intro σ;simp [kJ,upO,pu.map,pd.map]) (by intro σ;simp [kJ,upV]) (by intro σ;have h1:=hp0.2 σ;simp only [kJ,List.map_cons,List.map_nil,h1];simp [upO,pd.map]) (by intro σ;simp only [kJ,List.map_cons,List.map_nil,upO,pj.map]) rfl ?_ ?_
 ·intro p hp
  simp only [kJ,List.mem_cons,List.not_mem_nil,or_false] at hp
  rcases hp with rfl | rfl <;> simp [kJ]
 ·intro p hp _
  simp only [kJ,List.mem_cons,List.not_mem_nil,or_false] at hp
  rcases hp with rfl | rfl
  ·exact ⟨_,List.mem_cons_self ..,rfl⟩
  ·exact ⟨_,List.mem_cons_of_mem _ (List.mem_cons_self ..),rfl⟩
 ·intro p hp
  simp only [kJ,List.mem_cons,List.not_mem_nil,or_false] at hp
  rcases hp with rfl | rfl <;> simp [look]
 ·intro j o hj
  match j,hj with
  | 0,hj => exact hj
  | j + 1,hj => simp [kJ] at hj
end Go.Abs
end
section
namespace Go.Abs
open Go.Proofs
set_option maxRecDepth 100000
def pR64 : SumO:=fnW fun args _ => match args with
 | [.int .i32 v] => some ([],kR (.int .i32 v) (b4 v) 4,-2147483648 ≤ v∧v ≤ 2147483647)
 | _ => none
def pR60 : SumO:=fnW fun args _ => match args with
 | [.int .i8 v] => some ([],kR (.int .i8 v) (b1 v) 1,-128 ≤ v∧v ≤ 127)
 | _ => none
def pR66 : SumO:=fnW fun args _ => match args with
 | [.int .i64 v] => some ([],kR (.int .i64 v) (b8 v) 8,-9223372036854775808 ≤ v∧v ≤ 9223372036854775807)
 | _ => none
def pR87 : SumO:=fnW fun args _ => match args with
 | [.int .u32 v] => some ([],kR (.int .u32 v) (b4 v) 4,True)
 | _ => none
def cB (m : Nat) : Nat:=bif Nat.beq m 0 then 8 else 2 * (4 + m) + 1
def eB (m : Nat) : Nat:=bif Nat.beq m 0 then 0 else 1
def q63 (m : Nat) (vs : List Value) : Sm:=withL (withS sm0 49 pR64) 48 [1,0,1,1] (piece 23 (t63 2 4 8 0) (o63a m vs (b4 (IntKind.wrap IntKind.i32 (m : Int)))) 3 .normal (mkFr 23 [(3,.slice (some ⟨3,0,none⟩) (4 + m) (cB m))]) (mkHp 4 (o63 m vs (gB vs m) (eB m))))
def k63 (m : Nat) (vs : List Value) : ConW:=⟨fun X => [X 0],[.v vs m],fun σ => .slice (some ⟨σ 2,0,none⟩) (4 + m) (cB m),fun _ => [.cells (gB vs m) (eB m)]⟩
theorem c63_came (m : Nat) (vs : List Value) (h0 : Int.NonNeg (IntKind.wrap .i32 (↑m : Int) - -2147483648)) (h1 : Int.NonNeg (2147483647 - IntKind.wrap .i32 (↑m : Int))) :
  RanC (runO Tryz.prog E1 (q63 m vs) noRun 100 48 [Value.chan (some 1)] (mkHp 2 (wordsOs [Wd.v vs m] 0 fun n => n)) [] True) (.returned (Value.slice (some ⟨3,0,none⟩) (4 + m) (cB m))) [(0,AObj.rov vs),(1,AObj.word m 0),(3,AObj.cells (gB vs m) (eB m))] 4 :=
 cameCF_of (O:=((True∧(Int.NonNeg (IntKind.wrap .i32 (↑m : Int) - -2147483648)∧Int.NonNeg (2147483647 - IntKind.wrap .i32 (↑m : Int)))∧[Value.int .i32 (IntKind.wrap .i32 (↑m : Int))] = [Value.int .i32 (IntKind.wrap .i32 (↑m : Int))]∧True)∧SelfP 23 (t63 2 4 8 0) (o63a m vs (b4 (IntKind.wrap .i32 (↑m : Int)))) 3)) (by kernel_rfl) ⟨⟨trivial,⟨⟨h0,h1⟩,⟨rfl,trivial⟩⟩⟩,selfP_true _ _ _ _⟩
theorem i32_rng (x : Int) : -2147483648 ≤ IntKind.wrap IntKind.i32 x∧IntKind.wrap IntKind.i32 x ≤ 2147483647:=by
 have h1 : (2 : Int) ^ IntKind.i32.bits = 4294967296:=by decide
 have h2 : (2 : Int) ^ (IntKind.i32.bits - 1) = 2147483648:=by decide
 unfold IntKind.wrap
 rw [h1,h2]
 have hs : IntKind.i32.signed = true:=rfl
 simp only [hs,Bool.true_and]
 split
 ·rename_i h
  simp at h
  omega
 ·rename_i h
  simp at h
  omega
def PlainO (o : AObj) : Prop:=(∀ N,BdO N o)∧∀ σ,upO σ o = o
theorem plainO_cells {us : List Value} {e : Nat} (h : PlainC us) : PlainO (.cells us e):=⟨fun N v hv => (h v hv).1 N,fun σ => by simp [upO,h.map]⟩
theorem conW_via {G : Prot → World → Prop} {f : Nat} {c : ConW} {s : Sm} (hs : ∀ pr w0,G pr w0 → SmOk Tryz.prog E1 pr w0 s) {n : Nat} {orc : List Ans} {os1 : List (Nat × AObj)} {n1 : Nat} {v0 : Value} {o : AObj} (r : Nat)
  (h : RanC (runO Tryz.prog E1 s noRun n f (c.args fun i => .chan (some (2 * i + 1))) (mkHp (2 * c.ws.length) (wordsOs c.ws 0 fun n => n)) orc True) (.returned v0) os1 n1) (hl : 2 * c.ws.length < 100) (ha : ∀ x ∈ (c.args fun i => .chan (some (2 * i + 1))),Bd (2 * c.ws.length) x)
  (hv0 : v0 = upV (fun n => if n = 2 * c.ws.length then r else n) (c.v fun n => n)) (hv : Bd (2 * c.ws.length + 1) (c.v fun n => n)) (hnew : (c.new fun n => n) = [o]) (ho : (r,o) ∈ os1) (po : PlainO o)
  (ap : ∀ (ι ι' : Ren) (f g : Nat → Value),(∀ i,i < c.ws.length → conc ι (f i) = conc ι' (g i)) → (c.args f).map (conc ι) = (c.args g).map (conc ι')) (uv : ∀ σ,c.v σ = upV σ (c.v fun n => n)) (un : ∀ σ,c.new σ = c.new fun n => n) : ConWG G Tryz.prog f c:=by
 have hlim : 2 * c.ws.length + 1 ≤ limit:=by unfold limit;omega
 refine ⟨by unfold limit;omega,ha,ap,uv,fun σ => by rw [un,hnew,List.map_cons,po.2];rfl,mkHp (2 * c.ws.length + 1) [(2 * c.ws.length,o)],localG_via hP1 hs h (fun n => if n = 2 * c.ws.length then r else n) hv0 ?_ ?_ ?_ ha ?_ ?_ hlim (by simp [mkHp]) hv,by rw [hnew];rfl,?_⟩
 ·intro p hp
  simp only [List.mem_cons,List.not_mem_nil,or_false] at hp
  subst hp
  rw [if_pos rfl,po.2]
  exact ho
 ·intro p hp q hq hne
  simp only [List.mem_cons,List.not_mem_nil,or_false] at hp hq
  subst hp hq
  exact absurd rfl hne
 ·intro m hm
  have hm : m < 2 * c.ws.length:=hm
  rw [if_neg (by omega)]
 ·refine List.all_eq_true.2 fun p hp => ?_
  simp only [List.mem_cons,List.not_mem_nil,or_false] at hp
  subst hp
  rw [Nat.blt_eq]
  unfold limit
  simp only
  omega
 ·intro p hp
  simp only [List.mem_cons,List.not_mem_nil,or_false] at hp
  subst hp
  exact ⟨by simp only;omega,po.1 _⟩
 ·intro j o' hj
  rw [hnew] at hj
  match j,hj with
  | 0,hj =>
   simp at hj
   subst hj
   rw [Hp.get,mkHp,mkT_get _ _ (fun p hp => by
    simp only [List.mem_cons,List.not_mem_nil,or_false] at hp
    subst hp
    unfold limit
    simp only
    omega)]
   simp [look]
  | j + 1,hj => simp at hj
theorem pR64_ok {pr : Prot} {w0 : World} (hG : GT pr w0) : SumOk Tryz.prog pr w0 0 49 pR64:=fnW_ok gt_stands hG fun args μ X c p hg hp => by
 split at hg
 ·cases hg;exact con64 hp.1 hp.2
 ·cases hg
theorem pR60_ok {pr : Prot} {w0 : World} (hG : GT pr w0) : SumOk Tryz.prog pr w0 0 45 pR60:=fnW_ok gt_stands hG fun args μ X c p hg hp => by
 split at hg
 ·cases hg;exact con60 hp.1 hp.2
 ·cases hg
theorem pR66_ok {pr : Prot} {w0 : World} (hG : GT pr w0) : SumOk Tryz.prog pr w0 0 51 pR66:=fnW_ok gt_stands hG fun args μ X c p hg hp => by
 split at hg
 ·cases hg;exact con66 hp.1 hp.2
 ·cases hg
theorem pR87_ok {pr : Prot} {w0 : World} (hG : GT pr w0) : SumOk Tryz.prog pr w0 0 71 pR87:=fnW_ok gt_stands hG fun args μ X c p hg hp => by
 split at hg
 ·cases hg;exact con87
 ·cases hg
theorem con63 {bs : List Int} (hb : 4 + bs.length ≤ 70368744177664) : ConWG GT Tryz.prog 48 (k63 bs.length (bv bs)):=by
 have pb:=isB_plain (bv_isB bs)
 generalize hg0 : b4 (IntKind.wrap IntKind.i32 ((bs.length : Nat) : Int)) = g0
 have hg0b : g0.all isB = true:=by rw [← hg0];rfl
 have hg0l : g0.length = 4:=by rw [← hg0];rfl
 have hgB : gB (bv bs) bs.length = g0 ++ bv bs:=by rw [gB,hg0]
 have hrowb : ∀ k,(g0 ++ bv (bs.take k)).all isB = true:=fun k => by rw [List.all_append,hg0b,bv_isB];rfl
 have hrowl : ∀ k,k ≤ bs.length → (g0 ++ bv (bs.take k)).length = 4 + k:=fun k hk => by simp [bv_len,hg0l];omega
 have hrows : ∀ k,k < bs.length → (g0 ++ bv (bs.take k)) ++ [Value.int .u8 (bs.getD k 0)] = g0 ++ bv (bs.take (k + 1)):=fun k hk => by rw [bv_take hk,List.append_assoc]
 have ho : ∀ k e,∀ p ∈ o63 bs.length (bv bs) (g0 ++ bv (bs.take k)) e,p.1 < 4∧BdO 4 p.2:=by
  intro k e p hp
  simp only [o63,List.mem_cons,List.not_mem_nil,or_false] at hp
  rcases hp with rfl | rfl | rfl
  ·exact ⟨by simp,trivial⟩
  ·exact ⟨by simp,by simp [BdO]⟩
  ·exact ⟨by simp,fun v hv => (isB_plain (hrowb k) v hv).1 _⟩
 have ho0 : ∀ p ∈ o63a bs.length (bv bs) g0,p.1 < 3∧BdO 3 p.2:=by
  intro p hp
  simp only [o63a,List.mem_cons,List.not_mem_nil,or_false] at hp
  rcases hp with rfl | rfl | rfl
  ·exact ⟨by simp,trivial⟩
  ·exact ⟨by simp,by simp [BdO]⟩
  ·exact ⟨by simp,fun v hv => (isB_plain hg0b v hv).1 _⟩
 have hF4 : ∀ k e ts,(∀ p ∈ ts,Bd 4 p.2) → smallN ts = true → Fits 3 ts (o63 bs.length (bv bs) (g0 ++ bv (bs.take k)) e) 4:=fun k e ts h1 h2 => ⟨h2,rfl,h1,ho k e,by decide,by decide⟩
 have hbody : ∀ pr w0,PieceOk Tryz.prog pr w0 0 (.block 0 (.loop (codeAt Tryz.f48 [0,0,1,0,1,1]))) (piece 23 (t63 2 4 8 0) (o63a bs.length (bv bs) g0) 3 .normal (mkFr 23 [(3,.slice (some ⟨3,0,none⟩) (4 + bs.length) (cB bs.length))]) (mkHp 4 (o63 bs.length (bv bs) (g0 ++ bv bs) (eB bs.length)))):=by
  intro pr w0
  refine block_end ⟨rfl,rfl,by simp [t63],ho0,by decide,by decide⟩ ?_
  have hh : Here E1 48 [0,0,1,0,1,1] (codeAt Tryz.f48 [0,0,1,0,1,1]):=codeAt_here (fn:=Tryz.f48) (by kernel_rfl) (by kernel_rfl)
  have h0L:=rounds_tri (P:=Tryz.prog) (pr:=pr) (w0:=w0) (T:={ k : Nat // k ≤ bs.length }) ⟨23,fun t => match t.1 with
    | 0 => t63 2 4 8 0
    | k + 1 => t63 3 (4 + (k + 1)) (2 * (4 + (k + 1)) + 1) (k + 1),fun t => match t.1 with
    | 0 => o63a bs.length (bv bs) g0
    | k + 1 => o63 bs.length (bv bs) (g0 ++ bv (bs.take (k + 1))) 1,fun t => match t.1 with
    | 0 => 3
    | k + 1 => 4,fun t => bs.length - t.1⟩ (N:=3) (c:=codeAt Tryz.f48 [0,0,1,0,1,1]) (Ψ:=fun e f μ => e = .exit 0∧f = mkFr 23 [(3,.slice (some ⟨3,0,none⟩) (4 + bs.length) (cB bs.length))]∧μ = mkHp 4 (o63 bs.length (bv bs) (g0 ++ bv bs) (eB bs.length))) ?_ ⟨0,Nat.zero_le _⟩
  ·exact h0L
  ·rintro ⟨k,hk⟩
   have via : ∀ (k r e : Nat) (σ : Nat → Nat),σ = (fun n => if n = 3 then r else n) → (∀ p ∈ o63 bs.length (bv bs) (g0 ++ bv (bs.take k)) e,∀ q ∈ o63 bs.length (bv bs) (g0 ++ bv (bs.take k)) e,p.1 ≠ q.1 → 2 ≤ r → σ p.1 ≠ σ q.1):=by
    rintro k r e σ rfl p hp q hq hne hr
    simp only [o63,List.mem_cons,List.not_mem_nil,or_false] at hp hq
    rcases hp with rfl | rfl | rfl <;> rcases hq with rfl | rfl | rfl <;> simp at hne ⊢ <;> omega
   cases k with
   | zero =>
    by_cases hlt : 0 < bs.length
    ·have hcc:=b0_came bs.length 0 (bv bs) g0 (bs.getD 0 0) (by simp;omega) (by omega) (by rw [Int.toNat_natCast];exact bv_get hlt) ⟨by omega,by omega,by omega,by omega,by omega,by rw [List.length_take,List.length_drop];omega,rfl,rfl,rfl⟩
     have h1:=take_app g0 (Value.int .u8 (bs.getD 0 0)) 4 hg0l
     have h2:=hrows 0 hlt
     simp only [List.take_zero,show bv [] = [] from rfl,List.append_nil] at h2
     rw [show 4 * 1 = 4 from rfl] at h1
     rw [h1,h2,i64_succ (by omega)] at hcc
     refine on_via hP1 (sm0_ok pr w0) hh hcc (fun n => if n = 3 then 4 else n) ⟨1,hlt⟩ ?_ ?_ (fun p hp q hq hne => via 1 4 1 _ rfl p hp q hq hne (by omega)) (fun m hm => by rw [if_neg (by omega)]) (by simp only;omega) (hF4 1 1 _ (by simp [t63]) rfl)
     ·intro p hp
      simp only [t63,List.mem_cons,List.not_mem_nil,or_false] at hp
      rcases hp with rfl | rfl | rfl <;> simp [upV]
     ·intro p hp
      simp only [o63,List.mem_cons,List.not_mem_nil,or_false] at hp
      rcases hp with rfl | rfl | rfl
      ·simp [upO]
      ·simp [upO]
      ·simp only [upO,(isB_plain (hrowb 1)).map,if_true];simp
    ·have he : bs = []:=List.eq_nil_of_length_eq_zero (by omega)
     have hcc:=b0e_came bs.length 0 (bv bs) g0 (by simp [he])
     have hF:=hF4 bs.length (eB bs.length) [(3,.slice (some ⟨3,0,none⟩) (4 + bs.length) (cB bs.length))] (by simp) rfl
     have hv:=via bs.length 2 (eB bs.length) (fun n => if n = 3 then 2 else n) rfl
     rw [List.take_length] at hF hv
     refine out_via hP1 (sm0_ok pr w0) hh hcc (by simp) (by simp) (fun n => if n = 3 then 2 else n) ?_ ?_ (fun p hp q hq hne => hv p hp q hq hne (by omega)) (fun m hm => by rw [if_neg (by omega)]) hF ⟨rfl,rfl,rfl⟩
     ·intro p hp
      simp only [List.mem_cons,List.not_mem_nil,or_false] at hp
      subst hp
      simp [upV,he,cB]
     ·intro p hp
      simp only [o63,he,show bv [] = [] from rfl,List.append_nil,List.mem_cons,List.not_mem_nil,or_false] at hp
      rcases hp with rfl | rfl | rfl
      ·simp [upO,he,show bv [] = [] from rfl]
      ·simp [upO,he]
      ·simp only [upO,(isB_plain hg0b).map,if_true,eB];simp
   | succ k =>
    by_cases hlt : k + 1 < bs.length
    ·have hl:=hrowl (k + 1) hk
     have hcc:=b1r_came (4 + (k + 1)) (2 * (4 + (k + 1)) + 1) bs.length (k + 1) (bv bs) (g0 ++ bv (bs.take (k + 1))) (bs.getD (k + 1) 0) (by simp;omega) (by omega) (by rw [Int.toNat_natCast];exact bv_get hlt) ⟨by omega,by omega,by rw [capOf_open];omega,by omega,by omega,by rw [List.length_take,List.length_drop];omega,rfl,rfl,capOpen_open _,rfl,by rw [capOf_open];omega⟩
     rw [take_app _ _ _ hl,i64_succ (by omega),hrows (k + 1) hlt] at hcc
     refine on_via hP1 (sm0_ok pr w0) hh hcc (fun n => if n = 3 then 5 else n) ⟨k + 1 + 1,hlt⟩ ?_ ?_ (fun p hp q hq hne => via (k + 1 + 1) 5 1 _ rfl p hp q hq hne (by omega)) (fun m hm => by rw [if_neg (by omega)]) (by simp only;omega) (hF4 _ 1 _ (by simp [t63]) rfl)
     ·intro p hp
      simp only [t63,List.mem_cons,List.not_mem_nil,or_false] at hp
      rcases hp with rfl | rfl | rfl <;> simp [upV] <;> omega
     ·intro p hp
      simp only [o63,List.mem_cons,List.not_mem_nil,or_false] at hp
      rcases hp with rfl | rfl | rfl
      ·simp [upO]
      ·simp [upO]
      ·simp only [upO,(isB_plain (hrowb (k + 1 + 1))).map,if_true];simp
    ·have he : k + 1 = bs.length:=by omega
     have hne : Nat.beq bs.length 0 = false:=beq_no (by omega)
     have hcc:=cut_came (b1e_came (4 + (k + 1)) (2 * (4 + (k + 1)) + 1) bs.length (k + 1) (bv bs) (g0 ++ bv (bs.take (k + 1))) (by simp;omega)) (ts':=[(3,.slice (some ⟨3,0,none⟩) (4 + (k + 1)) (2 * (4 + (k + 1)) + 1))]) (by simp)
     refine out_came hP1 (sm0_ok pr w0) hh hcc (by simp) (by simp) (hF4 (k + 1) 1 _ (by simp) rfl) ⟨rfl,?_,?_⟩
     ·rw [he,cB,hne];rfl
     ·rw [he,List.take_length,eB,hne];rfl
 subst hg0
 have hr:=i32_rng ((bs.length : Nat) : Int)
 have hc:=c63_came bs.length (bv bs) hr.1 hr.2
 exact conW_via (c:=k63 bs.length (bv bs)) (o:=.cells (gB (bv bs) bs.length) (eB bs.length)) (fun pr w0 hG => withL_ok (withS_ok (sm0_ok pr w0) (pR64_ok hG)) (fn:=Tryz.f48) (c:=.block 0 (.loop (codeAt Tryz.f48 [0,0,1,0,1,1]))) (by kernel_rfl) (by kernel_rfl) (hbody pr w0)) 3 hc (by simp [k63]) (by simp [k63,Bd]) (by simp [k63,upV]) (by simp [k63]) rfl (by simp) (plainO_cells (isB_plain (gB_isB bs _))) (by intro ι ι' f g h;simp [k63,h 0 (by simp [k63])]) (by intro σ;simp [k63,upV]) (fun σ => rfl)
def pR63 : SumO:=fnW fun args μ => match args with
 | [.chan (some w)] => match μ.get w with
  | some (.word m r) => match μ.get r with
   | some (.rov vs) => some ([.chan (some w)],k63 m vs,(vs.all isB = true∧vs.length = m)∧4 + m ≤ 70368744177664)
   | _ => none
  | _ => none
 | [.slice (some a) m c] => match μ.get a.block with
  | some (.rov vs) => some ([.slice (some a) m c],k63 m vs,(vs.all isB = true∧vs.length = m)∧4 + m ≤ 70368744177664)
  | _ => none
 | _ => none
def s62 : Sm:=withS sm0 48 pR63
theorem pR63_ok {pr : Prot} {w0 : World} (hG : GT pr w0) : SumOk Tryz.prog pr w0 0 48 pR63:=by
 have key : ∀ {m : Nat} {vs : List Value},(vs.all isB = true∧vs.length = m)∧4 + m ≤ 70368744177664 → ConWG GT Tryz.prog 48 (k63 m vs):=by
  rintro m vs ⟨⟨h1,h2⟩,h3⟩
  have:=con63 (bs:=vs.map asI) (by rw [List.length_map];omega)
  rw [List.length_map,bv_asI h1,h2] at this
  exact this
 refine fnW_ok gt_stands hG fun args μ X c p hg hp => ?_
 split at hg
 ·split at hg
  ·split at hg
   ·cases hg;exact key hp
   ·cases hg
  ·cases hg
 ·split at hg
  ·cases hg;exact key hp
  ·cases hg
 ·cases hg
theorem c62_came (s : ByteArray) (h0 : List.all (intList s.data.toList) atom = true) (h1 : List.all (intList s.data.toList) isB = true) (h2 : List.length (intList s.data.toList) = ByteArray.size s) (h3 : Nat.le (4 + ByteArray.size s) 70368744177664) (h4 : List.take (List.length (intList s.data.toList)) (List.drop 0 (intList s.data.toList)) = intList s.data.toList) :
  RanC (runO Tryz.prog E1 (s62) noRun 100 47 [Value.string s] (mkHp 0 []) [.skip 3,.frz 0] True) (.returned (Value.slice (some ⟨3,0,none⟩) (4 + ByteArray.size s) (cB (ByteArray.size s)))) [(0,AObj.rov (intList s.data.toList)),(1,AObj.rov (intList s.data.toList)),(2,AObj.word (ByteArray.size s) 1),(3,AObj.cells (gB (intList s.data.toList) (ByteArray.size s)) (eB (ByteArray.size s)))] 4 :=
 cameCF_of (O:=let x0:=Wd.v (intList s.data.toList) (ByteArray.size s);let x1:=2 * ByteArray.size s + 1;(True∧List.all (intList s.data.toList) atom = true)∧((List.all (intList s.data.toList) isB = true∧List.length (intList s.data.toList) = ByteArray.size s)∧Nat.le (4 + ByteArray.size s) 70368744177664)∧[Value.slice (some (Addr.mk 0 0 none)) (ByteArray.size s) x1] = [Value.slice (some (Addr.mk 0 0 none)) (ByteArray.size s) x1]∧(Wd.len x0 = Wd.len x0∧List.take (List.length (intList s.data.toList)) (List.drop 0 (intList s.data.toList)) = intList s.data.toList)∧True) (by kernel_rfl) ⟨⟨trivial,h0⟩,⟨⟨⟨h1,h2⟩,h3⟩,⟨rfl,⟨⟨rfl,h4⟩,trivial⟩⟩⟩⟩
def k62 (s : ByteArray) : ConW:=⟨fun _ => [.string s],[],fun σ => .slice (some ⟨σ 0,0,none⟩) (4 + s.size) (cB s.size),fun _ => [.cells (gB (intList s.data.toList) s.size) (eB s.size)]⟩
def pR62 : SumO:=fnW fun args _ => match args with
 | [.string s] => some ([],k62 s,4 + s.size ≤ 70368744177664)
 | _ => none
theorem isB_atoms {us : List Value} (h : us.all isB = true) : us.all atom = true:=List.all_eq_true.2 fun v hv => by
 have:=List.all_eq_true.1 h v hv
 unfold isB at this
 split at this
 ·rfl
 ·cases this
theorem con62 {s : ByteArray} (hb : 4 + s.size ≤ 70368744177664) : ConWG GT Tryz.prog 47 (k62 s):=by
 have hi:=intList_isB s.data.toList
 have hc:=c62_came s (isB_atoms hi) hi (by rw [intList_len,size_len]) hb (by rw [List.drop_zero,List.take_length])
 have hg : (gB (intList s.data.toList) s.size).all isB = true:=by rw [gB,List.all_append,hi];rfl
 exact conW_via (c:=k62 s) (o:=.cells (gB (intList s.data.toList) s.size) (eB s.size)) (fun pr w0 hG => withS_ok (sm0_ok pr w0) (pR63_ok hG)) 3 hc (by simp [k62]) (by simp [k62]) (by simp [k62,upV]) (by simp [k62]) rfl (by simp) (plainO_cells (isB_plain hg)) (by intro ι ι' f g _;simp [k62]) (by intro σ;simp [k62,upV]) (fun σ => rfl)
theorem pR62_ok {pr : Prot} {w0 : World} (hG : GT pr w0) : SumOk Tryz.prog pr w0 0 47 pR62:=fnW_ok gt_stands hG fun args μ X c p hg hp => by
 split at hg
 ·cases hg;exact con62 hp
 ·cases hg
def pJ : SumO:=fnL fun args μ => match args with
 | [.slice (some a) n c,.slice (some b) m c2] => match μ.get a.block,μ.get b.block with
  | some (.cells us 0),some (.cells ps e2) => some ([a.block,b.block],kJ n c m c2 0 e2 us ps (.cells us 0),(us.length = n∧us.all isB = true∧ps.all isB = true∧ps.length = m)∧1 ≤ m∧n + m ≤ 70368744177664∧c = 2 * n)
  | some (.cells us 1),some (.cells ps e2) => some ([a.block,b.block],kJ n c m c2 1 e2 us ps .dead,(us.length = n∧us.all isB = true∧ps.all isB = true∧ps.length = m)∧1 ≤ m∧n + m ≤ 70368744177664∧c = 2 * n + 1)
  | _,_ => none
 | _ => none
theorem pJ_ok {pr : Prot} {w0 : World} (hG : GT pr w0) : SumOk Tryz.prog pr w0 0 46 pJ:=by
 refine fnL_ok gt_stands hG fun args μ τ c p hg hp => ?_
 split at hg
 ·split at hg
  ·simp only [Option.some.injEq,Prod.mk.injEq] at hg
   obtain ⟨_,rfl,rfl⟩:=hg
   obtain ⟨⟨h1,h2,h3,h4⟩,h5,h6,h7⟩:=hp
   rw [← bv_asI h3]
   exact conJ h1 h2 (by rw [List.length_map];exact h4) h5 h6 (.inl ⟨h7,rfl⟩)
  ·simp only [Option.some.injEq,Prod.mk.injEq] at hg
   obtain ⟨_,rfl,rfl⟩:=hg
   obtain ⟨⟨h1,h2,h3,h4⟩,h5,h6,h7⟩:=hp
   rw [← bv_asI h3]
   exact conJ h1 h2 (by rw [List.length_map];exact h4) h5 h6 (.inr ⟨h7,rfl,rfl⟩)
  ·cases hg
 ·cases hg
end Go.Abs
end
