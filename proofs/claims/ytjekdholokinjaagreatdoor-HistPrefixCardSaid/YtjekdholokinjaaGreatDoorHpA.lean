/-
  What the law's functions come to: part A.
-/
import Derived.Test.YtjekdholokinjaaGreatDoorProg
import Derived.Shelf.Strconv.Itoa3
import Derived.Ground.NamesProg
import Derived.Test.YtjekdholokinjaaGreatDoorHpQ
import Derived.WalkKit
import Derived.BigCall
import Derived.Lib.ItoaLen
import Derived.Lib.Walk
set_option linter.unusedVariables false
set_option linter.unusedSimpArgs false
set_option linter.unusedSectionVars false
section
namespace Go.Proofs
open Go.Shelf
def Tryz.laysItoa_ren : Go.Shelf.Ren := ⟨fun | 171 => 60 | 243 => 79 | 246 => 106 | 283 => 130 | 284 => 131 | 285 => 132 | 286 => 133 | 129 => 156 | 317 => 155 | 318 => 157 | 319 => 158 | 320 => 159 | 337 => 187 | 338 => 188 | n => n, fun | 3 => 3 | 9 => 9 | 2 => 2 | 4 => 4 | 171 => 198 | 0 => 0 | 53 => 199 | 37 => 34 | 5 => 5 | 173 => 202 | 212 => 232 | 51 => 28 | 20 => 20 | 213 => 233 | 46 => 178 | 232 => 271 | 233 => 272 | n => n, fun | 17 => 1 | 18 => 3 | 19 => 4 | n => n⟩
theorem Tryz.laysItoa : Go.Proofs.LaysM.n171 Tryz.prog Tryz.laysItoa_ren := {
  mixed := by kernel_rfl
  f129 := Tryz.func156.trans (congrArg some (by kernel_rfl))
  f171 := Tryz.func60.trans (congrArg some (by kernel_rfl))
  f243 := Tryz.func79.trans (congrArg some (by kernel_rfl))
  f246 := Tryz.func106.trans (congrArg some (by kernel_rfl))
  f283 := Tryz.func130.trans (congrArg some (by kernel_rfl))
  f284 := Tryz.func131.trans (congrArg some (by kernel_rfl))
  f285 := Tryz.func132.trans (congrArg some (by kernel_rfl))
  f286 := Tryz.func133.trans (congrArg some (by kernel_rfl))
  f317 := Tryz.func155.trans (congrArg some (by kernel_rfl))
  f318 := Tryz.func157.trans (congrArg some (by kernel_rfl))
  f319 := Tryz.func158.trans (congrArg some (by kernel_rfl))
  f320 := Tryz.func159.trans (congrArg some (by kernel_rfl))
  f337 := Tryz.func187.trans (congrArg some (by kernel_rfl))
  f338 := Tryz.func188.trans (congrArg some (by kernel_rfl))
  t0 := Tryz.underlying0
  a0 := Tryz.isAgg0
  z0 := Tryz.sizeOf0
  v0 := Tryz.zeroValue0
  t2 := Tryz.underlying2
  a2 := Tryz.isAgg2
  z2 := Tryz.sizeOf2
  v2 := Tryz.zeroValue2
  t3 := Tryz.underlying3
  a3 := Tryz.isAgg3
  z3 := Tryz.sizeOf3
  v3 := Tryz.zeroValue3
  t4 := Tryz.underlying4
  a4 := Tryz.isAgg4
  z4 := Tryz.sizeOf4
  v4 := Tryz.zeroValue4
  t5 := Tryz.underlying5
  a5 := Tryz.isAgg5
  z5 := Tryz.sizeOf5
  v5 := Tryz.zeroValue5
  t9 := Tryz.underlying9
  a9 := Tryz.isAgg9
  z9 := Tryz.sizeOf9
  v9 := Tryz.zeroValue9
  t20 := Tryz.underlying20
  a20 := Tryz.isAgg20
  z20 := Tryz.sizeOf20
  v20 := Tryz.zeroValue20
  t37 := Tryz.underlying34
  a37 := Tryz.isAgg34
  z37 := Tryz.sizeOf34
  v37 := Tryz.zeroValue34
  t46 := Tryz.underlying178
  a46 := Tryz.isAgg178
  z46 := Tryz.sizeOf178
  v46 := Tryz.zeroValue178
  t51 := Tryz.underlying28
  a51 := Tryz.isAgg28
  z51 := Tryz.sizeOf28
  v51 := Tryz.zeroValue28
  t53 := Tryz.underlying199
  a53 := Tryz.isAgg199
  z53 := Tryz.sizeOf199
  v53 := Tryz.zeroValue199
  t171 := Tryz.underlying198
  a171 := Tryz.isAgg198
  z171 := Tryz.sizeOf198
  v171 := Tryz.zeroValue198
  t173 := Tryz.underlying202
  a173 := Tryz.isAgg202
  z173 := Tryz.sizeOf202
  v173 := Tryz.zeroValue202
  t212 := Tryz.underlying232
  a212 := Tryz.isAgg232
  z212 := Tryz.sizeOf232
  v212 := Tryz.zeroValue232
  t213 := Tryz.underlying233
  a213 := Tryz.isAgg233
  z213 := Tryz.sizeOf233
  t232 := Tryz.underlying271
  a232 := Tryz.isAgg271
  z232 := Tryz.sizeOf271
  v232 := Tryz.zeroValue271
  t233 := Tryz.underlying272
  a233 := Tryz.isAgg272
  z233 := Tryz.sizeOf272
  v233 := Tryz.zeroValue272
  g17 := by kernel_rfl
  g18 := by kernel_rfl
  g19 := by kernel_rfl
  i0 := by kernel_rfl
  i2 := by kernel_rfl
  i3 := by kernel_rfl
  i4 := by kernel_rfl
  i5 := by kernel_rfl
  i9 := by kernel_rfl
  i20 := by kernel_rfl
  i37 := by kernel_rfl
  i46 := by kernel_rfl
  i51 := by kernel_rfl
  i53 := by kernel_rfl
  i171 := by kernel_rfl
  i173 := by kernel_rfl
  i212 := by kernel_rfl
  i232 := by kernel_rfl
  i233 := by kernel_rfl
  m17 := by kernel_rfl
  m18 := by kernel_rfl
  m19 := by kernel_rfl }
end Go.Proofs
end
section
namespace Go.Abs
open Go.Proofs
set_option maxRecDepth 100000
def tW (n m k : Nat) : List (Nat × Value) := [(0, .chan (some 1)), (3, .slice (some ⟨2, 0, none⟩) m (2 * m)), (4, .int .i64 k)]
def oW (n : Nat) (vs r : List Value) : List (Nat × AObj) := [(0, .rov vs), (1, .word n 0), (2, .cells r 0)]
def oE (n : Nat) (vs us : List Value) : List (Nat × AObj) := [(0, .rov vs), (1, .word n 0), (2, .rov us), (3, .word n 2)]
def tE15 (k : Nat) : List (Nat × Value) := [(0, .chan (some 1)), (1, .chan (some 3)), (4, .bool false), (5, .int .i64 k)]
theorem e26_0 (n : Nat) (m : Nat) (k : Nat) (vs : List Value) (r : List Value) (x : Int) (h0 : decide ((↑k : Int) < (↑m : Int)) = true) (h1 : 0 ≤ (↑k : Int) ∧ (↑k : Int) < (↑m : Int)) (h2 : 0 + Int.toNat (↑k : Int) * 1 + 1 ≤ List.length r ∧ true = true) (h3 : decide ((↑k : Int) < (↑n : Int)) = true) (h4 : 0 ≤ (↑k : Int) ∧ (↑k : Int) < (↑n : Int)) (h5 : vs[0 + Int.toNat (↑k : Int) * 1]? = some (Value.int IntKind.u8 x)) (h6 : 0 + Int.toNat (↑k : Int) * 1 + 1 ≤ List.length (putAt r (0 + Int.toNat (↑k : Int) * 1) [Value.int IntKind.u8 (IntKind.wrap IntKind.u8 (IntKind.wrap IntKind.i64 (170 + Int.tmod (↑k : Int) 5)))]) ∧ true = true) :
    Ran (codeO Tryz.prog E1 (sm0) noRun 100 33 [0, 0, 1, 0, 1, 1] (codeAt Tryz.f33 [0, 0, 1, 0, 1, 1]) (mkFr 37 (tW n m k)) (mkHp 3 (oW n vs r)) [.skip 4, .b true, .skip 6, .sym, .sym, .skip 4, .b true, .skip 4, .sym, .v (Value.int IntKind.u8 x), .sym, .sym] True) (Exit.normal) 37 [(0, Value.chan (some 1)), (3, Value.slice (some (Addr.mk 2 0 none)) m (2 * m)), (4, Value.int IntKind.i64 (IntKind.wrap IntKind.i64 ((↑k : Int) + 1)))] [(0, AObj.rov vs), (1, AObj.word n 0), (2, AObj.cells (putAt (putAt r (0 + Int.toNat (↑k : Int) * 1) [Value.int IntKind.u8 (IntKind.wrap IntKind.u8 (IntKind.wrap IntKind.i64 (170 + Int.tmod (↑k : Int) 5)))]) (0 + Int.toNat (↑k : Int) * 1) [Value.int IntKind.u8 x]) 0)] 3 :=
  cameF_of (O := ((((((((True ∧ decide ((↑k : Int) < (↑m : Int)) = true) ∧ 0 ≤ (↑k : Int) ∧ (↑k : Int) < (↑m : Int)) ∧ 0 + Int.toNat (↑k : Int) * 1 + 1 ≤ List.length r ∧ true = true) ∧ decide ((↑k : Int) < (↑n : Int)) = true) ∧ 0 ≤ (↑k : Int) ∧ (↑k : Int) < (↑n : Int)) ∧ vs[0 + Int.toNat (↑k : Int) * 1]? = some (Value.int IntKind.u8 x)) ∧ 0 ≤ (↑k : Int) ∧ (↑k : Int) < (↑m : Int)) ∧ 0 + Int.toNat (↑k : Int) * 1 + 1 ≤ List.length (putAt r (0 + Int.toNat (↑k : Int) * 1) [Value.int IntKind.u8 (IntKind.wrap IntKind.u8 (IntKind.wrap IntKind.i64 (170 + Int.tmod (↑k : Int) 5)))]) ∧ true = true)) (by kernel_rfl) ⟨⟨⟨⟨⟨⟨⟨⟨trivial, h0⟩, h1⟩, h2⟩, h3⟩, h4⟩, h5⟩, h1⟩, h6⟩
theorem e26_1 (n : Nat) (m : Nat) (k : Nat) (vs : List Value) (r : List Value) (x : Int) (h0 : decide ((↑k : Int) < (↑m : Int)) = true) (h1 : 0 ≤ (↑k : Int) ∧ (↑k : Int) < (↑m : Int)) (h2 : 0 + Int.toNat (↑k : Int) * 1 + 1 ≤ List.length r ∧ true = true) (h3 : decide ((↑k : Int) < (↑n : Int)) = false) :
    Ran (codeO Tryz.prog E1 (sm0) noRun 100 33 [0, 0, 1, 0, 1, 1] (codeAt Tryz.f33 [0, 0, 1, 0, 1, 1]) (mkFr 37 (tW n m k)) (mkHp 3 (oW n vs r)) [.skip 4, .b true, .skip 6, .sym, .sym, .skip 4, .b false] True) (Exit.normal) 37 [(0, Value.chan (some 1)), (3, Value.slice (some (Addr.mk 2 0 none)) m (2 * m)), (4, Value.int IntKind.i64 (IntKind.wrap IntKind.i64 ((↑k : Int) + 1)))] [(0, AObj.rov vs), (1, AObj.word n 0), (2, AObj.cells (putAt r (0 + Int.toNat (↑k : Int) * 1) [Value.int IntKind.u8 (IntKind.wrap IntKind.u8 (IntKind.wrap IntKind.i64 (170 + Int.tmod (↑k : Int) 5)))]) 0)] 3 :=
  cameF_of (O := ((((True ∧ decide ((↑k : Int) < (↑m : Int)) = true) ∧ 0 ≤ (↑k : Int) ∧ (↑k : Int) < (↑m : Int)) ∧ 0 + Int.toNat (↑k : Int) * 1 + 1 ≤ List.length r ∧ true = true) ∧ decide ((↑k : Int) < (↑n : Int)) = false)) (by kernel_rfl) ⟨⟨⟨⟨trivial, h0⟩, h1⟩, h2⟩, h3⟩
theorem e26_2 (n : Nat) (m : Nat) (k : Nat) (vs : List Value) (r : List Value) (x : Int) (h0 : decide ((↑k : Int) < (↑m : Int)) = false) :
    Ran (codeO Tryz.prog E1 (sm0) noRun 100 33 [0, 0, 1, 0, 1, 1] (codeAt Tryz.f33 [0, 0, 1, 0, 1, 1]) (mkFr 37 (tW n m k)) (mkHp 3 (oW n vs r)) [.skip 4, .b false] True) (Exit.exit 0) 37 [(0, Value.chan (some 1)), (3, Value.slice (some (Addr.mk 2 0 none)) m (2 * m)), (4, Value.int IntKind.i64 (↑k : Int))] [(0, AObj.rov vs), (1, AObj.word n 0), (2, AObj.cells r 0)] 3 :=
  cameF_of (O := (True ∧ decide ((↑k : Int) < (↑m : Int)) = false)) (by kernel_rfl) ⟨trivial, h0⟩
theorem e15_0 (n : Nat) (k : Nat) (vs : List Value) (us : List Value) (x : Int) (y : Int) (h0 : decide ((↑k : Int) < (↑n : Int)) = true) (h1 : 0 ≤ (↑k : Int) ∧ (↑k : Int) < (↑n : Int)) (h2 : vs[0 + Int.toNat (↑k : Int) * 1]? = some (Value.int IntKind.u8 x)) (h3 : us[0 + Int.toNat (↑k : Int) * 1]? = some (Value.int IntKind.u8 y)) (h4 : (x != y) = true) :
    Ran (codeO Tryz.prog E1 (sm0) noRun 100 41 [0, 0, 1, 0, 1, 1] (codeAt Tryz.f41 [0, 0, 1, 0, 1, 1]) (mkFr 26 (tE15 k)) (mkHp 4 (oE n vs us)) [.skip 4, .b true, .skip 2, .sym, .v (Value.int IntKind.u8 x), .skip 2, .sym, .v (Value.int IntKind.u8 y), .skip 1, .b true] True) (Exit.ret) 26 [(0, Value.chan (some 1)), (1, Value.chan (some 3)), (4, Value.bool false), (5, Value.int IntKind.i64 (↑k : Int))] [(0, AObj.rov vs), (1, AObj.word n 0), (2, AObj.rov us), (3, AObj.word n 2)] 4 :=
  cameF_of (O := (((((((True ∧ decide ((↑k : Int) < (↑n : Int)) = true) ∧ 0 ≤ (↑k : Int) ∧ (↑k : Int) < (↑n : Int)) ∧ vs[0 + Int.toNat (↑k : Int) * 1]? = some (Value.int IntKind.u8 x)) ∧ 0 ≤ (↑k : Int) ∧ (↑k : Int) < (↑n : Int)) ∧ us[0 + Int.toNat (↑k : Int) * 1]? = some (Value.int IntKind.u8 y)) ∧ True ∧ True ∧ True ∧ True ∧ True ∧ True ∧ True ∧ True ∧ True ∧ True) ∧ (x != y) = true)) (by kernel_rfl) ⟨⟨⟨⟨⟨⟨⟨trivial, h0⟩, h1⟩, h2⟩, h1⟩, h3⟩, ⟨trivial, ⟨trivial, ⟨trivial, ⟨trivial, ⟨trivial, ⟨trivial, ⟨trivial, ⟨trivial, ⟨trivial, trivial⟩⟩⟩⟩⟩⟩⟩⟩⟩⟩, h4⟩
theorem e15_1 (n : Nat) (k : Nat) (vs : List Value) (us : List Value) (x : Int) (y : Int) (h0 : decide ((↑k : Int) < (↑n : Int)) = true) (h1 : 0 ≤ (↑k : Int) ∧ (↑k : Int) < (↑n : Int)) (h2 : vs[0 + Int.toNat (↑k : Int) * 1]? = some (Value.int IntKind.u8 x)) (h3 : us[0 + Int.toNat (↑k : Int) * 1]? = some (Value.int IntKind.u8 y)) (h4 : (x != y) = false) :
    Ran (codeO Tryz.prog E1 (sm0) noRun 100 41 [0, 0, 1, 0, 1, 1] (codeAt Tryz.f41 [0, 0, 1, 0, 1, 1]) (mkFr 26 (tE15 k)) (mkHp 4 (oE n vs us)) [.skip 4, .b true, .skip 2, .sym, .v (Value.int IntKind.u8 x), .skip 2, .sym, .v (Value.int IntKind.u8 y), .skip 1, .b false] True) (Exit.normal) 26 [(0, Value.chan (some 1)), (1, Value.chan (some 3)), (4, Value.bool false), (5, Value.int IntKind.i64 (IntKind.wrap IntKind.i64 ((↑k : Int) + 1)))] [(0, AObj.rov vs), (1, AObj.word n 0), (2, AObj.rov us), (3, AObj.word n 2)] 4 :=
  cameF_of (O := (((((((True ∧ decide ((↑k : Int) < (↑n : Int)) = true) ∧ 0 ≤ (↑k : Int) ∧ (↑k : Int) < (↑n : Int)) ∧ vs[0 + Int.toNat (↑k : Int) * 1]? = some (Value.int IntKind.u8 x)) ∧ 0 ≤ (↑k : Int) ∧ (↑k : Int) < (↑n : Int)) ∧ us[0 + Int.toNat (↑k : Int) * 1]? = some (Value.int IntKind.u8 y)) ∧ True ∧ True ∧ True ∧ True ∧ True ∧ True ∧ True ∧ True ∧ True ∧ True) ∧ (x != y) = false)) (by kernel_rfl) ⟨⟨⟨⟨⟨⟨⟨trivial, h0⟩, h1⟩, h2⟩, h1⟩, h3⟩, ⟨trivial, ⟨trivial, ⟨trivial, ⟨trivial, ⟨trivial, ⟨trivial, ⟨trivial, ⟨trivial, ⟨trivial, trivial⟩⟩⟩⟩⟩⟩⟩⟩⟩⟩, h4⟩
theorem e15_2 (n : Nat) (k : Nat) (vs : List Value) (us : List Value) (x : Int) (y : Int) (h0 : decide ((↑k : Int) < (↑n : Int)) = false) :
    Ran (codeO Tryz.prog E1 (sm0) noRun 100 41 [0, 0, 1, 0, 1, 1] (codeAt Tryz.f41 [0, 0, 1, 0, 1, 1]) (mkFr 26 (tE15 k)) (mkHp 4 (oE n vs us)) [.skip 4, .b false] True) (Exit.exit 0) 26 [(0, Value.chan (some 1)), (1, Value.chan (some 3)), (4, Value.bool false), (5, Value.int IntKind.i64 (↑k : Int))] [(0, AObj.rov vs), (1, AObj.word n 0), (2, AObj.rov us), (3, AObj.word n 2)] 4 :=
  cameF_of (O := (True ∧ decide ((↑k : Int) < (↑n : Int)) = false)) (by kernel_rfl) ⟨trivial, h0⟩
def mkB (j : Nat) : Int := IntKind.u8.wrap (IntKind.i64.wrap (170 + Int.tmod (j : Int) 5))
def cell26 (bs : List Int) (j : Nat) : List Value := [.int .u8 (if j < bs.length then bs.getD j 0 else mkB j)]
def row26 (bs : List Int) (m : Nat) : List Value := rows (fun j => [.int .u8 (if j < bs.length then bs.getD j 0 else IntKind.u8.wrap (IntKind.i64.wrap (170 + Int.tmod (j : Int) 5)))]) m
def q26 (n m : Nat) (vs r : List Value) : Sm := withL sm0 33 [1, 0, 1, 1] (piece 37 (tW n m 0) (oW n vs (copies [.int .u8 0] m)) 3 .normal (mkFr 37 [(0, .chan (some 1)), (3, .slice (some ⟨2, 0, none⟩) m (2 * m))]) (mkHp 3 (oW n vs r)))
def q15 (n : Nat) (vs us : List Value) : Sm := withL sm0 41 [1, 0, 1, 1] (piece 26 (tE15 0) (oE n vs us) 4 .normal (mkFr 26 [(4, .bool false)]) (mkHp 4 (oE n vs us)))
theorem c26_came (n : Nat) (m : Nat) (vs : List Value) (r : List Value) (h0 : IntKind.wrap .i64 ((↑n : Int) + 64) = (↑m : Int) ∧ IntKind.wrap .i64 ((↑n : Int) + 64) = (↑m : Int) ∧ 1 * m ≤ 281474976710656 ∧ m ≤ 9223372036854775807) (h1 : 0 ≤ (↑n : Int)) (h2 : (↑n : Int) ≤ (↑(capOf (2 * m)) : Int)) (h3 : 0 ≤ capOf (2 * m)) (h4 : 0 ≠ capOf (2 * m)) :
    RanC (runO Tryz.prog E1 (q26 n m vs r) noRun 100 33 [Value.chan (some 1)] (mkHp 2 (wordsOs [Wd.v vs n] 0 fun n => n)) [.skip 4, .mk m, .skip 5, .sym] True) (.returned (Value.slice (some ⟨2, 0, none⟩) n (2 * m - 0))) [(0, AObj.rov vs), (1, AObj.word n 0), (2, AObj.cells r 0)] 3 :=
  cameCF_of (O := (((True ∧ IntKind.wrap .i64 ((↑n : Int) + 64) = (↑m : Int) ∧ IntKind.wrap .i64 ((↑n : Int) + 64) = (↑m : Int) ∧ 1 * m ≤ 281474976710656 ∧ m ≤ 9223372036854775807) ∧ SelfP 37 (tW n m 0) (oW n vs (copies [Value.int .u8 0] m)) 3) ∧ ((0 ≤ (↑n : Int) ∧ (↑n : Int) ≤ (↑(capOf (2 * m)) : Int)) ∧ True ∧ 0 ≤ capOf (2 * m)) ∧ 0 ≠ capOf (2 * m))) (by kernel_rfl) ⟨⟨⟨trivial, h0⟩, selfP_true _ _ _ _⟩, ⟨⟨⟨h1, h2⟩, ⟨trivial, h3⟩⟩, h4⟩⟩
theorem c15_came (n : Nat) (vs : List Value) (us : List Value) (h0 : ((↑n : Int) != (↑n : Int)) = false) :
    RanC (runO Tryz.prog E1 (q15 n vs us) noRun 100 41 [Value.chan (some 1), Value.chan (some 3)] (mkHp 4 (wordsOs [Wd.v vs n, Wd.v us n] 0 fun n => n)) [.skip 6, .b false] True) (.returned (Value.bool true)) [(0, AObj.rov vs), (1, AObj.word n 0), (2, AObj.rov us), (3, AObj.word n 2)] 4 :=
  cameCF_of (O := ((True ∧ ((↑n : Int) != (↑n : Int)) = false) ∧ SelfP 26 (tE15 0) (oE n vs us) 4)) (by kernel_rfl) ⟨⟨trivial, h0⟩, selfP_true _ _ _ _⟩
def K26 (bs : List Int) : ConW := ⟨fun X => [X 0], [.v (bv bs) bs.length], fun σ => .slice (some ⟨σ 2, 0, none⟩) bs.length (2 * (bs.length + 64)), fun _ => [.cells (row26 bs (bs.length + 64)) 0]⟩
theorem row26_plain (bs : List Int) (m : Nat) : PlainC (row26 bs m) := by
  intro v hv
  obtain ⟨j, _, hj⟩ := rows_mem hv
  simp at hj
  subst hj
  exact ⟨fun N => by simp, fun σ => by simp [upV]⟩
theorem con26 {G : Prot → World → Prop} {bs : List Int} (hsm : bs.length < 1099511627776) : ConWG G Tryz.prog 33 (K26 bs) := by
  have hw : IntKind.i64.wrap ((bs.length : Int) + 64) = ((bs.length + 64 : Nat) : Int) := by
    rw [i64_small (by omega) (by omega)]; omega
  have hbo : ∀ k, ∀ p ∈ oW bs.length (bv bs) (fill (cell26 bs) (fun _ => [.int .u8 0]) (bs.length + 64) k), p.1 < 3 ∧ BdO 3 p.2 := by
    intro k p hp
    simp only [oW, List.mem_cons, List.not_mem_nil, or_false] at hp
    rcases hp with rfl | rfl | rfl
    · exact ⟨by simp, trivial⟩
    · exact ⟨by simp, by simp [BdO]⟩
    · refine ⟨by simp, ?_⟩
      intro v hv
      obtain ⟨j, _, hj⟩ := rows_mem hv
      simp only at hj
      split at hj <;> simp [cell26] at hj <;> subst hj <;> simp
  have hF : ∀ k ts, (∀ p ∈ ts, Bd 3 p.2) → smallN ts = true → Fits 3 ts (oW bs.length (bv bs) (fill (cell26 bs) (fun _ => [.int .u8 0]) (bs.length + 64) k)) 3 := fun k ts h1 h2 => ⟨h2, rfl, h1, hbo k, by decide, by decide⟩
  have hcop : copies [Value.int .u8 0] (bs.length + 64) = fill (cell26 bs) (fun _ => [.int .u8 0]) (bs.length + 64) 0 := by rw [copies_rows, fill_zero]
  have hful : row26 bs (bs.length + 64) = fill (cell26 bs) (fun _ => [.int .u8 0]) (bs.length + 64) (bs.length + 64) := by rw [fill_full]; rfl
  have hcap : capOf (2 * (bs.length + 64)) = bs.length + 64 := by simp [capOf]
  refine conW_run hP1 (s := q26 bs.length (bs.length + 64) (bv bs) (row26 bs (bs.length + 64))) (fun pr w0 _ => withL_ok (sm0_ok pr w0) (fn := Tryz.f33) (c := .block 0 (.loop (codeAt Tryz.f33 [0, 0, 1, 0, 1, 1]))) (by kernel_rfl) (by kernel_rfl) (block_end (by rw [hcop]; exact hF 0 _ (by simp [tW]) rfl) ?_))
    (c26_came bs.length (bs.length + 64) (bv bs) (row26 bs (bs.length + 64)) ⟨hw, hw, by omega, by omega⟩ (by omega) (by rw [hcap]; omega) (by omega) (by rw [hcap]; omega)) (by simp [K26, limit]) ⟨rfl, rfl, by simp, by rw [hful]; exact fun p hp => hbo _ p hp, by decide, (by decide : 2 ≤ 3)⟩ (by simp [K26]) (by simp [K26]) (by intro ι ι' f g h; simp [K26, h 0 (by simp [K26])]) (by intro σ; simp [K26, upV]) (by intro σ; simp [K26, upO, (row26_plain _ _).map]) rfl ?_
  · rw [hcop, hful]
    have hh : Here E1 33 [0, 0, 1, 0, 1, 1] (codeAt Tryz.f33 [0, 0, 1, 0, 1, 1]) := codeAt_here (fn := Tryz.f33) (by kernel_rfl) (by kernel_rfl)
    refine rounds_tri (T := { k : Nat // k ≤ bs.length + 64 }) ⟨37, fun t => tW bs.length (bs.length + 64) t.1, fun t => oW bs.length (bv bs) (fill (cell26 bs) (fun _ => [.int .u8 0]) (bs.length + 64) t.1), fun _ => 3, fun t => bs.length + 64 - t.1⟩ ?_ ⟨0, Nat.zero_le _⟩
    rintro ⟨k, hk⟩
    have hlen : (fill (cell26 bs) (fun _ => [Value.int .u8 0]) (bs.length + 64) k).length = bs.length + 64 := by
      rw [fill_length (s := 1) (fun _ _ => rfl) (fun _ _ => rfl), Nat.mul_one]
    have hk0 : 0 + Int.toNat (k : Int) * 1 = k := by simp
    by_cases hlt : k < bs.length + 64
    · have hput := fill_put (g := cell26 bs) (z := fun _ => [Value.int .u8 0]) (s := 1) (m := bs.length + 64) (k := k) (fun _ _ => rfl) (fun _ _ => rfl) hlt
      rw [Nat.mul_one] at hput
      have hk1 := i64_succ (k := k) (by omega)
      by_cases hkn : k < bs.length
      · have hc := e26_0 bs.length (bs.length + 64) k (bv bs) (fill (cell26 bs) (fun _ => [.int .u8 0]) (bs.length + 64) k) (bs.getD k 0) (by simp; omega) (by omega) ⟨by rw [hk0, hlen]; omega, rfl⟩ (by simp; omega) (by omega) (bv_get hkn) ⟨by rw [hk0]; simp only [putAt, List.length_append, List.length_take, List.length_drop, hlen, List.length_cons, List.length_nil]; omega, rfl⟩
        rw [hk0, putAt_twice _ _ _ _ (by omega), hk1] at hc
        have hcell : [Value.int .u8 (bs.getD k 0)] = cell26 bs k := by simp only [cell26, hkn, if_true]
        rw [hcell, hput] at hc
        exact on_came hP1 (sm0_ok pr w0) hh hc ⟨k + 1, hlt⟩ rfl rfl rfl (by simp only; omega) (hF _ _ (by simp [tW]) rfl)
      · have hc := e26_1 bs.length (bs.length + 64) k (bv bs) (fill (cell26 bs) (fun _ => [.int .u8 0]) (bs.length + 64) k) 0 (by simp; omega) (by omega) ⟨by rw [hk0, hlen]; omega, rfl⟩ (by simp; omega)
        rw [hk0, hk1] at hc
        have hcell : [Value.int .u8 (IntKind.u8.wrap (IntKind.i64.wrap (170 + Int.tmod (k : Int) 5)))] = cell26 bs k := by simp only [cell26, hkn, if_false, mkB]
        rw [hcell, hput] at hc
        exact on_came hP1 (sm0_ok pr w0) hh hc ⟨k + 1, hlt⟩ rfl rfl rfl (by simp only; omega) (hF _ _ (by simp [tW]) rfl)
    · have hk' : k = bs.length + 64 := by omega
      subst hk'
      have hc := cut_came (e26_2 bs.length (bs.length + 64) (bs.length + 64) (bv bs) (fill (cell26 bs) (fun _ => [.int .u8 0]) (bs.length + 64) (bs.length + 64)) 0 (by simp)) (ts' := [(0, .chan (some 1)), (3, .slice (some ⟨2, 0, none⟩) (bs.length + 64) (2 * (bs.length + 64)))]) (by simp)
      exact out_came hP1 (sm0_ok pr w0) hh hc (by simp) (by simp) (hF _ _ (by simp) rfl) ⟨rfl, rfl, rfl⟩
  · intro j o' hj
    match j, hj with
    | 0, hj => exact hj
    | j + 1, hj => simp [K26] at hj
def K15 (bs : List Int) : ConW := ⟨fun X => [X 0, X 1], [.v (bv bs) bs.length, .v (bv bs) bs.length], fun _ => .bool true, fun _ => []⟩
theorem pure_bool (b : Bool) : Pure (.bool b) := fun ι => by simp
theorem pure_int (k : IntKind) (i : Int) : Pure (.int k i) := fun ι => by simp
theorem con15 {G : Prot → World → Prop} {bs : List Int} (hsm : bs.length < 9223372036854775807) : ConWG G Tryz.prog 41 (K15 bs) := by
  have hF : ∀ ts, (∀ p ∈ ts, Bd 4 p.2) → smallN ts = true → Fits 4 ts (oE bs.length (bv bs) (bv bs)) 4 := fun ts h1 h2 => ⟨h2, rfl, h1, by simp [oE, BdO], by decide, by decide⟩
  refine conW_read hP1 (s := q15 bs.length (bv bs) (bv bs)) (fun pr w0 _ => withL_ok (sm0_ok pr w0) (fn := Tryz.f41) (c := .block 0 (.loop (codeAt Tryz.f41 [0, 0, 1, 0, 1, 1]))) (by kernel_rfl) (by kernel_rfl) (block_end (hF _ (by simp [tE15]) rfl) ?_)) (c15_came bs.length (bv bs) (bv bs) (by simp)) (by simp [limit]) (hF _ (by simp) rfl) (by simp) (pure_bool _) (by intro ι ι' f g h; simp [h 0 (by simp), h 1 (by simp)]) (by intro σ; simp [upV])
  have hh : Here E1 41 [0, 0, 1, 0, 1, 1] (codeAt Tryz.f41 [0, 0, 1, 0, 1, 1]) := codeAt_here (fn := Tryz.f41) (by kernel_rfl) (by kernel_rfl)
  refine rounds_tri (T := { k : Nat // k ≤ bs.length }) ⟨26, fun t => tE15 t.1, fun _ => oE bs.length (bv bs) (bv bs), fun _ => 4, fun t => bs.length - t.1⟩ ?_ ⟨0, Nat.zero_le _⟩
  rintro ⟨k, hk⟩
  by_cases hlt : k < bs.length
  · refine on_came hP1 (sm0_ok pr w0) hh (e15_1 bs.length k (bv bs) (bv bs) (bs.getD k 0) (bs.getD k 0) (by simp; omega) (by omega) (bv_get hlt) (bv_get hlt) (by simp)) ⟨k + 1, hlt⟩ ?_ rfl rfl (by simp only; omega) (hF _ (by simp [tE15]) rfl)
    rw [i64_succ (by omega)]; rfl
  · have hc := cut_came (e15_2 bs.length k (bv bs) (bv bs) 0 0 (by simp; omega)) (ts' := [(4, .bool false)]) (by simp)
    exact out_came hP1 (sm0_ok pr w0) hh hc (by simp) (by simp) (hF _ (by simp) rfl) ⟨rfl, rfl, rfl⟩
end Go.Abs
end
section
namespace Go.Abs
open Go.Proofs
set_option maxRecDepth 100000
def Tab (pr : Prot) (w : World) : Prop := Lib.TabIs Tryz.prog w "internal/strconv.uint64pow10" .u64 Lib.pow10Tab ∧ pr.p 1
theorem g1 : Tryz.prog.globalNamed "internal/strconv.uint64pow10" = some 1 := by kernel_rfl
theorem Tab.lt {pr : Prot} {w : World} (h : Tab pr w) : 1 < w.heap.size := by
  have := h.1
  rw [Lib.TabIs, World.var?, g1] at this
  simp only [Option.bind_some] at this
  cases hc : w.heap[1]? with
  | none => rw [hc] at this; cases this
  | some o => exact (Array.getElem?_eq_some_iff.1 hc).1
theorem tab_stands : StandsL Tab := by
  intro pr w0 pr' w hG hsz hk
  have h1 := hk 1 hG.lt hG.2
  refine ⟨?_, h1.1⟩
  have h2 := hG.1
  rw [Lib.TabIs, World.var?, g1] at h2 ⊢
  simp only [Option.bind_some] at h2 ⊢
  rw [h1.2]; exact h2
theorem grow_below (B : Nat) (w : World) (k : Nat) (os) (hB : B ≤ w.heap.size) : RowKit.Below B w (Sort.grow (w.drewN k) os) := by
  refine ⟨rfl, rfl, rfl, ?_, fun j hj => ?_⟩
  · simp [Sort.grow, World.drewN]
  · simp only [Sort.grow, World.drewN]
    exact Array.getElem?_append_left (by omega)
def rng (n : Int) : Prop := -9223372036854775808 ≤ n ∧ n ≤ 9223372036854775807
def numQ (g : Int → List UInt8) : List Value → Hp → Option (Value × Prop) := fun args _ => match args with
  | [.int .i64 n] => some (.string ⟨(g n).toArray⟩, rng n)
  | _ => none
def markT (n : Int) : List UInt8 := 33 :: Lib.itoa n
noncomputable def smM : Sm := withQ sm0 44 (numQ markT)
theorem itoa28 (n : Int) (h0 : -9223372036854775808 ≤ n) (h1 : n ≤ 9223372036854775807) (w : World) (htab : Lib.TabIs Tryz.prog w "internal/strconv.uint64pow10" .u64 Lib.pow10Tab) :
    Calls Tryz.prog 60 #[.int .i64 n] w fun e w' => e = .returned (.string ⟨(Lib.itoa n).toArray⟩) ∧ ∃ k os, w' = Sort.grow (w.drewN k) os := Any.strconv_Itoa Tryz.laysItoa n h0 h1 w htab
theorem numS_ok {pr : Prot} {w0 : World} (hG : Tab pr w0) {f : Nat} {g : Int → List UInt8}
    (h : ∀ n w, rng n → Lib.TabIs Tryz.prog w "internal/strconv.uint64pow10" .u64 Lib.pow10Tab → Calls Tryz.prog f #[.int .i64 n] w fun e w' => e = .returned (.string ⟨(g n).toArray⟩) ∧ RowKit.Below w.heap.size w w') : SumOk Tryz.prog pr w0 0 f (pureS (numQ g)) := by
  intro args μ e μ' p hg hp ι w hS hbd
  unfold pureS at hg
  split at hg
  case h_2 => cases hg
  rename_i v p' hq
  unfold numQ at hq
  split at hq
  · rename_i n
    simp only [Option.some.injEq, Prod.mk.injEq] at hg hq
    obtain ⟨rfl, rfl⟩ := hq
    obtain ⟨rfl, rfl, rfl⟩ := hg
    have hT := tab_stands.stands _ _ _ _ _ _ hG hS
    have hc : (List.map (conc ι) [Value.int .i64 n]).toArray = #[.int .i64 n] := by simp [conc]
    rw [hc]
    refine (h n w hp hT.1).mono ?_
    rintro e w' ⟨rfl, hb⟩
    exact ⟨ι, Ext.refl _ _, Nat.le_refl _, hS.stays hb, by simp [conc], by simp [Bd]⟩
  · cases hq
theorem mark12 (n : Int) (w : World) (hr : rng n) (htab : Lib.TabIs Tryz.prog w "internal/strconv.uint64pow10" .u64 Lib.pow10Tab) :
    Calls Tryz.prog 44 #[.int .i64 n] w fun e w' => e = .returned (.string ⟨((33 :: Lib.itoa n)).toArray⟩) ∧ RowKit.Below w.heap.size w w' := by
  have h0 := hr.1
  have h1 := hr.2
  have hl := Lib.itoa_length_le n h0 h1
  go_enter Tryz.func44, Tryz.ntmps44
  go_wp2_with (go_at_call 60; refine (itoa28 n h0 h1 _ htab).mono ?_; rintro e w' ⟨rfl, k, os, rfl⟩)
  go_ret
  refine ⟨?_, grow_below _ _ _ _ (Nat.le_refl _)⟩
  congr 2
theorem mark_ok {pr : Prot} {w0 : World} (hG : Tab pr w0) : SumOk Tryz.prog pr w0 0 44 (pureS (numQ markT)) := numS_ok hG mark12
theorem smM_ok : ∀ pr w0, Tab pr w0 → SmOk Tryz.prog E1 pr w0 smM := fun pr w0 hG => withQ_ok (sm0_ok pr w0) (mark_ok hG)
end Go.Abs
end
section
namespace Go.Abs
open Go.Proofs
set_option maxRecDepth 100000
def oR (ds : List Deep) : List (Nat × AObj) := [(0, .ro ds)]
def tS17 (o len c2 k : Nat) : List (Nat × Value) := [(3, .slice (some ⟨0, o, none⟩) len c2), (4, .int .i64 k)]
theorem e27_0 (n : Nat) (m : Nat) (k : Nat) (vs : List Value) (r : List Value) (a : Int) (s : ByteArray) (d : ByteArray) (h0 : decide ((↑k : Int) < (↑m : Int)) = true) (h1 : decide ((↑k : Int) < (↑n : Int)) = true) (h2 : 0 ≤ (↑k : Int) ∧ (↑k : Int) < (↑n : Int)) (h3 : List.take 3 (List.drop (0 + Int.toNat (↑k : Int) * 3) vs) = [Value.int IntKind.i8 a, Value.string s, Value.string d]) (h4 : 0 ≤ (↑k : Int) ∧ (↑k : Int) < (↑m : Int)) (h5 : 0 + Int.toNat (↑k : Int) * 3 + 3 ≤ List.length r ∧ true = true) :
    Ran (codeO Tryz.prog E1 (smM) noRun 100 34 [0, 0, 1, 0, 1, 1] (codeAt Tryz.f34 [0, 0, 1, 0, 1, 1]) (mkFr 38 (tW n m k)) (mkHp 3 (oW n vs r)) [.skip 4, .b true, .skip 4, .b true, .skip 4, .sym, .l [Value.int IntKind.i8 a, Value.string s, Value.string d], .sym, .sym] True) (Exit.normal) 38 [(0, Value.chan (some 1)), (3, Value.slice (some (Addr.mk 2 0 none)) m (2 * m)), (4, Value.int IntKind.i64 (IntKind.wrap IntKind.i64 ((↑k : Int) + 1)))] [(0, AObj.rov vs), (1, AObj.word n 0), (2, AObj.cells (putAt r (0 + Int.toNat (↑k : Int) * 3) [Value.int IntKind.i8 a, Value.string s, Value.string d]) 0)] 3 :=
  cameF_of (O := ((((((True ∧ decide ((↑k : Int) < (↑m : Int)) = true) ∧ decide ((↑k : Int) < (↑n : Int)) = true) ∧ 0 ≤ (↑k : Int) ∧ (↑k : Int) < (↑n : Int)) ∧ List.take 3 (List.drop (0 + Int.toNat (↑k : Int) * 3) vs) = [Value.int IntKind.i8 a, Value.string s, Value.string d]) ∧ 0 ≤ (↑k : Int) ∧ (↑k : Int) < (↑m : Int)) ∧ 0 + Int.toNat (↑k : Int) * 3 + 3 ≤ List.length r ∧ true = true)) (by kernel_rfl) ⟨⟨⟨⟨⟨⟨trivial, h0⟩, h1⟩, h2⟩, h3⟩, h4⟩, h5⟩
theorem e27_1 (n : Nat) (m : Nat) (k : Nat) (vs : List Value) (r : List Value) (a : Int) (s : ByteArray) (d : ByteArray) (h0 : decide ((↑k : Int) < (↑m : Int)) = true) (h1 : decide ((↑k : Int) < (↑n : Int)) = false) (h2 : Int.NonNeg (IntKind.wrap IntKind.i64 (-3000000 - (↑k : Int)) - -9223372036854775808) ∧ Int.NonNeg (9223372036854775807 - IntKind.wrap IntKind.i64 (-3000000 - (↑k : Int)))) (h3 : 0 ≤ (↑k : Int) ∧ (↑k : Int) < (↑m : Int)) (h4 : 0 + Int.toNat (↑k : Int) * 3 + 3 ≤ List.length r ∧ true = true) :
    Ran (codeO Tryz.prog E1 (smM) noRun 100 34 [0, 0, 1, 0, 1, 1] (codeAt Tryz.f34 [0, 0, 1, 0, 1, 1]) (mkFr 38 (tW n m k)) (mkHp 3 (oW n vs r)) [.skip 4, .b true, .skip 4, .b false, .skip 7, .sym, .sym] True) (Exit.normal) 38 [(0, Value.chan (some 1)), (3, Value.slice (some (Addr.mk 2 0 none)) m (2 * m)), (4, Value.int IntKind.i64 (IntKind.wrap IntKind.i64 ((↑k : Int) + 1)))] [(0, AObj.rov vs), (1, AObj.word n 0), (2, AObj.cells (putAt r (0 + Int.toNat (↑k : Int) * 3) [Value.int IntKind.i8 0, Value.string (ByteArray.mk #[]), Value.string (ByteArray.mk (List.toArray (markT (IntKind.wrap IntKind.i64 (-3000000 - (↑k : Int))))))]) 0)] 3 :=
  cameF_of (O := (((((True ∧ decide ((↑k : Int) < (↑m : Int)) = true) ∧ decide ((↑k : Int) < (↑n : Int)) = false) ∧ Int.NonNeg (IntKind.wrap IntKind.i64 (-3000000 - (↑k : Int)) - -9223372036854775808) ∧ Int.NonNeg (9223372036854775807 - IntKind.wrap IntKind.i64 (-3000000 - (↑k : Int)))) ∧ 0 ≤ (↑k : Int) ∧ (↑k : Int) < (↑m : Int)) ∧ 0 + Int.toNat (↑k : Int) * 3 + 3 ≤ List.length r ∧ true = true)) (by kernel_rfl) ⟨⟨⟨⟨⟨trivial, h0⟩, h1⟩, h2⟩, h3⟩, h4⟩
theorem e27_2 (n : Nat) (m : Nat) (k : Nat) (vs : List Value) (r : List Value) (a : Int) (s : ByteArray) (d : ByteArray) (h0 : decide ((↑k : Int) < (↑m : Int)) = false) :
    Ran (codeO Tryz.prog E1 (smM) noRun 100 34 [0, 0, 1, 0, 1, 1] (codeAt Tryz.f34 [0, 0, 1, 0, 1, 1]) (mkFr 38 (tW n m k)) (mkHp 3 (oW n vs r)) [.skip 4, .b false] True) (Exit.exit 0) 38 [(0, Value.chan (some 1)), (3, Value.slice (some (Addr.mk 2 0 none)) m (2 * m)), (4, Value.int IntKind.i64 (↑k : Int))] [(0, AObj.rov vs), (1, AObj.word n 0), (2, AObj.cells r 0)] 3 :=
  cameF_of (O := (True ∧ decide ((↑k : Int) < (↑m : Int)) = false)) (by kernel_rfl) ⟨trivial, h0⟩
theorem e16_1 (n : Nat) (k : Nat) (vs : List Value) (us : List Value) (a : Int) (s : ByteArray) (d : ByteArray) (h0 : decide ((↑k : Int) < (↑n : Int)) = true) (h1 : 0 ≤ (↑k : Int) ∧ (↑k : Int) < (↑n : Int)) (h2 : List.take 3 (List.drop (0 + Int.toNat (↑k : Int) * 3) vs) = [Value.int IntKind.i8 a, Value.string s, Value.string d]) (h3 : List.take 3 (List.drop (0 + Int.toNat (↑k : Int) * 3) us) = [Value.int IntKind.i8 a, Value.string s, Value.string d]) (h4 : (!(a == a && (ByteArray.toList s == ByteArray.toList s && (ByteArray.toList d == ByteArray.toList d && true) && true))) = false) :
    Ran (codeO Tryz.prog E1 (sm0) noRun 100 42 [0, 0, 1, 0, 1, 1] (codeAt Tryz.f42 [0, 0, 1, 0, 1, 1]) (mkFr 26 (tE15 k)) (mkHp 4 (oE n vs us)) [.skip 4, .b true, .skip 2, .sym, .l [Value.int IntKind.i8 a, Value.string s, Value.string d], .skip 2, .sym, .l [Value.int IntKind.i8 a, Value.string s, Value.string d], .skip 1, .b false] True) (Exit.normal) 26 [(0, Value.chan (some 1)), (1, Value.chan (some 3)), (4, Value.bool false), (5, Value.int IntKind.i64 (IntKind.wrap IntKind.i64 ((↑k : Int) + 1)))] [(0, AObj.rov vs), (1, AObj.word n 0), (2, AObj.rov us), (3, AObj.word n 2)] 4 :=
  cameF_of (O := (((((((True ∧ decide ((↑k : Int) < (↑n : Int)) = true) ∧ 0 ≤ (↑k : Int) ∧ (↑k : Int) < (↑n : Int)) ∧ List.take 3 (List.drop (0 + Int.toNat (↑k : Int) * 3) vs) = [Value.int IntKind.i8 a, Value.string s, Value.string d]) ∧ 0 ≤ (↑k : Int) ∧ (↑k : Int) < (↑n : Int)) ∧ List.take 3 (List.drop (0 + Int.toNat (↑k : Int) * 3) us) = [Value.int IntKind.i8 a, Value.string s, Value.string d]) ∧ True ∧ True ∧ True ∧ True ∧ True ∧ True ∧ True ∧ True ∧ True ∧ True) ∧ (!(a == a && (ByteArray.toList s == ByteArray.toList s && (ByteArray.toList d == ByteArray.toList d && true) && true))) = false)) (by kernel_rfl) ⟨⟨⟨⟨⟨⟨⟨trivial, h0⟩, h1⟩, h2⟩, h1⟩, h3⟩, ⟨trivial, ⟨trivial, ⟨trivial, ⟨trivial, ⟨trivial, ⟨trivial, ⟨trivial, ⟨trivial, ⟨trivial, trivial⟩⟩⟩⟩⟩⟩⟩⟩⟩⟩, h4⟩
theorem e16_2 (n : Nat) (k : Nat) (vs : List Value) (us : List Value) (a : Int) (s : ByteArray) (d : ByteArray) (h0 : decide ((↑k : Int) < (↑n : Int)) = false) :
    Ran (codeO Tryz.prog E1 (sm0) noRun 100 42 [0, 0, 1, 0, 1, 1] (codeAt Tryz.f42 [0, 0, 1, 0, 1, 1]) (mkFr 26 (tE15 k)) (mkHp 4 (oE n vs us)) [.skip 4, .b false] True) (Exit.exit 0) 26 [(0, Value.chan (some 1)), (1, Value.chan (some 3)), (4, Value.bool false), (5, Value.int IntKind.i64 (↑k : Int))] [(0, AObj.rov vs), (1, AObj.word n 0), (2, AObj.rov us), (3, AObj.word n 2)] 4 :=
  cameF_of (O := (True ∧ decide ((↑k : Int) < (↑n : Int)) = false)) (by kernel_rfl) ⟨trivial, h0⟩
theorem e17_1 (o : Nat) (len : Nat) (c2 : Nat) (k : Nat) (ds : List Deep) (x : Int) (h0 : decide ((↑k : Int) < (↑len : Int)) = true) (h1 : 0 ≤ (↑k : Int) ∧ (↑k : Int) < (↑len : Int)) (h2 : ds[o + Int.toNat (↑k : Int) * 1]? = some (Deep.val (Value.int IntKind.u8 x))) (h3 : (x != IntKind.wrap IntKind.u8 (IntKind.wrap IntKind.i64 (170 + Int.tmod (↑k : Int) 5))) = false) :
    Ran (codeO Tryz.prog E1 (sm0) noRun 100 24 [0, 0, 1, 0, 1, 1] (codeAt Tryz.f24 [0, 0, 1, 0, 1, 1]) (mkFr 27 (tS17 o len c2 k)) (mkHp 1 (oR ds)) [.skip 4, .b true, .skip 2, .sym, .dp [Deep.val (Value.int IntKind.u8 x)], .skip 5, .b false] True) (Exit.normal) 27 [(3, Value.slice (some (Addr.mk 0 o none)) len c2), (4, Value.int IntKind.i64 (IntKind.wrap IntKind.i64 ((↑k : Int) + 1)))] [(0, AObj.ro ds)] 1 :=
  cameF_of (O := ((((True ∧ decide ((↑k : Int) < (↑len : Int)) = true) ∧ 0 ≤ (↑k : Int) ∧ (↑k : Int) < (↑len : Int)) ∧ ds[o + Int.toNat (↑k : Int) * 1]? = some (Deep.val (Value.int IntKind.u8 x))) ∧ (x != IntKind.wrap IntKind.u8 (IntKind.wrap IntKind.i64 (170 + Int.tmod (↑k : Int) 5))) = false)) (by kernel_rfl) ⟨⟨⟨⟨trivial, h0⟩, h1⟩, h2⟩, h3⟩
theorem e17_2 (o : Nat) (len : Nat) (c2 : Nat) (k : Nat) (ds : List Deep) (x : Int) (h0 : decide ((↑k : Int) < (↑len : Int)) = false) :
    Ran (codeO Tryz.prog E1 (sm0) noRun 100 24 [0, 0, 1, 0, 1, 1] (codeAt Tryz.f24 [0, 0, 1, 0, 1, 1]) (mkFr 27 (tS17 o len c2 k)) (mkHp 1 (oR ds)) [.skip 4, .b false] True) (Exit.exit 0) 27 [(3, Value.slice (some (Addr.mk 0 o none)) len c2), (4, Value.int IntKind.i64 (↑k : Int))] [(0, AObj.ro ds)] 1 :=
  cameF_of (O := (True ∧ decide ((↑k : Int) < (↑len : Int)) = false)) (by kernel_rfl) ⟨trivial, h0⟩
theorem e18_1 (o : Nat) (len : Nat) (c2 : Nat) (k : Nat) (ds : List Deep) (s : ByteArray) (h0 : decide ((↑k : Int) < (↑len : Int)) = true) (h1 : 0 ≤ (↑k : Int) ∧ (↑k : Int) < (↑len : Int)) (h2 : ds[o + Int.toNat (↑k : Int) * 3 + 1 + 1]? = some (Deep.val (Value.string s))) (h3 : Int.NonNeg (IntKind.wrap IntKind.i64 (-3000000 - (↑k : Int)) - -9223372036854775808) ∧ Int.NonNeg (9223372036854775807 - IntKind.wrap IntKind.i64 (-3000000 - (↑k : Int)))) (h4 : (!ByteArray.toList s == ByteArray.toList (ByteArray.mk (List.toArray (markT (IntKind.wrap IntKind.i64 (-3000000 - (↑k : Int))))))) = false) :
    Ran (codeO Tryz.prog E1 (smM) noRun 100 25 [0, 0, 1, 0, 1, 1] (codeAt Tryz.f25 [0, 0, 1, 0, 1, 1]) (mkFr 29 (tS17 o len c2 k)) (mkHp 1 (oR ds)) [.skip 4, .b true, .dp [], .skip 2, .sym, .skip 2, .dp [Deep.val (Value.string s)], .skip 5, .b false] True) (Exit.normal) 29 [(3, Value.slice (some (Addr.mk 0 o none)) len c2), (4, Value.int IntKind.i64 (IntKind.wrap IntKind.i64 ((↑k : Int) + 1)))] [(0, AObj.ro ds)] 1 :=
  cameF_of (O := (((((True ∧ decide ((↑k : Int) < (↑len : Int)) = true) ∧ 0 ≤ (↑k : Int) ∧ (↑k : Int) < (↑len : Int)) ∧ ds[o + Int.toNat (↑k : Int) * 3 + 1 + 1]? = some (Deep.val (Value.string s))) ∧ Int.NonNeg (IntKind.wrap IntKind.i64 (-3000000 - (↑k : Int)) - -9223372036854775808) ∧ Int.NonNeg (9223372036854775807 - IntKind.wrap IntKind.i64 (-3000000 - (↑k : Int)))) ∧ (!ByteArray.toList s == ByteArray.toList (ByteArray.mk (List.toArray (markT (IntKind.wrap IntKind.i64 (-3000000 - (↑k : Int))))))) = false)) (by kernel_rfl) ⟨⟨⟨⟨⟨trivial, h0⟩, h1⟩, h2⟩, h3⟩, h4⟩
theorem e18_2 (o : Nat) (len : Nat) (c2 : Nat) (k : Nat) (ds : List Deep) (s : ByteArray) (h0 : decide ((↑k : Int) < (↑len : Int)) = false) :
    Ran (codeO Tryz.prog E1 (smM) noRun 100 25 [0, 0, 1, 0, 1, 1] (codeAt Tryz.f25 [0, 0, 1, 0, 1, 1]) (mkFr 29 (tS17 o len c2 k)) (mkHp 1 (oR ds)) [.skip 4, .b false] True) (Exit.exit 0) 29 [(3, Value.slice (some (Addr.mk 0 o none)) len c2), (4, Value.int IntKind.i64 (↑k : Int))] [(0, AObj.ro ds)] 1 :=
  cameF_of (O := (True ∧ decide ((↑k : Int) < (↑len : Int)) = false)) (by kernel_rfl) ⟨trivial, h0⟩
abbrev Ent := Int × ByteArray × ByteArray
def cellA (a : Ent) : List Value := [.int .i8 a.1, .string a.2.1, .string a.2.2]
def av (es : List Ent) : List Value := rows (fun j => cellA (es.getD j (0, ⟨#[]⟩, ⟨#[]⟩))) es.length
def zeroA3 : List Value := [.int .i8 0, .string ⟨#[]⟩, .string ⟨#[]⟩]
def markA (j : Nat) : List Value := [.int .i8 0, .string ⟨#[]⟩, .string ⟨(markT (IntKind.i64.wrap (-3000000 - (j : Int)))).toArray⟩]
def cell27 (es : List Ent) (j : Nat) : List Value := match es[j]? with
  | some a => cellA a
  | none => markA j
def row27 (es : List Ent) (m : Nat) : List Value := rows (cell27 es) m
noncomputable def q27 (n m : Nat) (vs r : List Value) : Sm := withL smM 34 [1, 0, 1, 1] (piece 38 (tW n m 0) (oW n vs (copies [.int .i8 0, .string ⟨#[]⟩, .string ⟨#[]⟩] m)) 3 .normal (mkFr 38 [(0, .chan (some 1)), (3, .slice (some ⟨2, 0, none⟩) m (2 * m))]) (mkHp 3 (oW n vs r)))
def q16 (n : Nat) (vs us : List Value) : Sm := withL sm0 42 [1, 0, 1, 1] (piece 26 (tE15 0) (oE n vs us) 4 .normal (mkFr 26 [(4, .bool false)]) (mkHp 4 (oE n vs us)))
def q17 (o n cap : Nat) (ds : List Deep) : Sm := withL sm0 24 [1, 0, 1, 1] (piece 27 (tS17 (o + 0 * 1) (Int.toNat (IntKind.i64.wrap ((n : Int) + 64)) - 0) (cap - 2 * 0) n) (oR ds) 1 .normal (mkFr 27 []) (mkHp 1 (oR ds)))
noncomputable def q18 (o n cap : Nat) (ds : List Deep) : Sm := withL smM 25 [1, 0, 1, 1] (piece 29 (tS17 (o + 0 * 3) (Int.toNat (IntKind.i64.wrap ((n : Int) + 64)) - 0) (cap - 2 * 0) n) (oR ds) 1 .normal (mkFr 29 []) (mkHp 1 (oR ds)))
theorem c27_came (n : Nat) (m : Nat) (vs : List Value) (r : List Value) (h0 : IntKind.wrap .i64 ((↑n : Int) + 64) = (↑m : Int) ∧ IntKind.wrap .i64 ((↑n : Int) + 64) = (↑m : Int) ∧ 40 * m ≤ 281474976710656 ∧ m ≤ 9223372036854775807) (h1 : 0 ≤ (↑n : Int)) (h2 : (↑n : Int) ≤ (↑(capOf (2 * m)) : Int)) (h3 : 0 ≤ capOf (2 * m)) (h4 : 0 ≠ capOf (2 * m)) :
    RanC (runO Tryz.prog E1 (q27 n m vs r) noRun 100 34 [Value.chan (some 1)] (mkHp 2 (wordsOs [Wd.v vs n] 0 fun n => n)) [.skip 4, .mk m, .skip 5, .sym] True) (.returned (Value.slice (some ⟨2, 0, none⟩) n (2 * m - 0))) [(0, AObj.rov vs), (1, AObj.word n 0), (2, AObj.cells r 0)] 3 :=
  cameCF_of (O := (((True ∧ IntKind.wrap .i64 ((↑n : Int) + 64) = (↑m : Int) ∧ IntKind.wrap .i64 ((↑n : Int) + 64) = (↑m : Int) ∧ 40 * m ≤ 281474976710656 ∧ m ≤ 9223372036854775807) ∧ SelfP 38 (tW n m 0) (oW n vs (copies [Value.int .i8 0, Value.string (ByteArray.mk #[]), Value.string (ByteArray.mk #[])] m)) 3) ∧ ((0 ≤ (↑n : Int) ∧ (↑n : Int) ≤ (↑(capOf (2 * m)) : Int)) ∧ True ∧ 0 ≤ capOf (2 * m)) ∧ 0 ≠ capOf (2 * m))) (by kernel_rfl) ⟨⟨⟨trivial, h0⟩, selfP_true _ _ _ _⟩, ⟨⟨⟨h1, h2⟩, ⟨trivial, h3⟩⟩, h4⟩⟩
theorem c16_came (n : Nat) (vs : List Value) (us : List Value) (h0 : ((↑n : Int) != (↑n : Int)) = false) :
    RanC (runO Tryz.prog E1 (q16 n vs us) noRun 100 42 [Value.chan (some 1), Value.chan (some 3)] (mkHp 4 (wordsOs [Wd.v vs n, Wd.v us n] 0 fun n => n)) [.skip 6, .b false] True) (.returned (Value.bool true)) [(0, AObj.rov vs), (1, AObj.word n 0), (2, AObj.rov us), (3, AObj.word n 2)] 4 :=
  cameCF_of (O := ((True ∧ ((↑n : Int) != (↑n : Int)) = false) ∧ SelfP 26 (tE15 0) (oE n vs us) 4)) (by kernel_rfl) ⟨⟨trivial, h0⟩, selfP_true _ _ _ _⟩
theorem c17_came (o : Nat) (n : Nat) (cap : Nat) (ds : List Deep) (h0 : 0 ≤ IntKind.wrap .i64 ((↑n : Int) + 64)) (h1 : IntKind.wrap .i64 ((↑n : Int) + 64) ≤ (↑(capOf cap) : Int)) (h2 : 0 ≤ capOf cap) (h3 : 0 ≠ capOf cap) :
    RanC (runO Tryz.prog E1 (q17 o n cap ds) noRun 100 24 [Value.slice (some ⟨0, o, none⟩) n cap] (mkHp 1 (oR ds)) [.skip 5, .sym] True) (.returned (Value.bool true)) [(0, AObj.ro ds)] 1 :=
  cameCF_of (O := ((True ∧ ((0 ≤ IntKind.wrap .i64 ((↑n : Int) + 64) ∧ IntKind.wrap .i64 ((↑n : Int) + 64) ≤ (↑(capOf cap) : Int)) ∧ True ∧ 0 ≤ capOf cap) ∧ 0 ≠ capOf cap) ∧ SelfP 27 (tS17 (o + 0 * 1) (Int.toNat (IntKind.wrap .i64 ((↑n : Int) + 64)) - 0) (cap - 2 * 0) n) (oR ds) 1)) (by kernel_rfl) ⟨⟨trivial, ⟨⟨⟨h0, h1⟩, ⟨trivial, h2⟩⟩, h3⟩⟩, selfP_true _ _ _ _⟩
theorem c18_came (o : Nat) (n : Nat) (cap : Nat) (ds : List Deep) (h0 : 0 ≤ IntKind.wrap .i64 ((↑n : Int) + 64)) (h1 : IntKind.wrap .i64 ((↑n : Int) + 64) ≤ (↑(capOf cap) : Int)) (h2 : 0 ≤ capOf cap) (h3 : 0 ≠ capOf cap) :
    RanC (runO Tryz.prog E1 (q18 o n cap ds) noRun 100 25 [Value.slice (some ⟨0, o, none⟩) n cap] (mkHp 1 (oR ds)) [.skip 5, .sym] True) (.returned (Value.bool true)) [(0, AObj.ro ds)] 1 :=
  cameCF_of (O := ((True ∧ ((0 ≤ IntKind.wrap .i64 ((↑n : Int) + 64) ∧ IntKind.wrap .i64 ((↑n : Int) + 64) ≤ (↑(capOf cap) : Int)) ∧ True ∧ 0 ≤ capOf cap) ∧ 0 ≠ capOf cap) ∧ SelfP 29 (tS17 (o + 0 * 3) (Int.toNat (IntKind.wrap .i64 ((↑n : Int) + 64)) - 0) (cap - 2 * 0) n) (oR ds) 1)) (by kernel_rfl) ⟨⟨trivial, ⟨⟨⟨h0, h1⟩, ⟨trivial, h2⟩⟩, h3⟩⟩, selfP_true _ _ _ _⟩
theorem av_len (es : List Ent) : (av es).length = es.length * 3 := rows_length (s := 3) fun _ _ => rfl
theorem av_get {es : List Ent} {k : Nat} (h : k < es.length) : List.take 3 (List.drop (0 + k * 3) (av es)) = cellA (es[k]) := by
  rw [Nat.zero_add, av, rows_at (s := 3) (fun _ _ => rfl) h, List.getD_eq_getElem?_getD, List.getElem?_eq_getElem h]; rfl
theorem rng_wrap (x : Int) : rng (IntKind.i64.wrap x) := by
  have h1 : (2 : Int) ^ IntKind.i64.bits = 18446744073709551616 := by decide
  have h2 : (2 : Int) ^ (IntKind.i64.bits - 1) = 9223372036854775808 := by decide
  unfold rng IntKind.wrap
  rw [h1, h2]
  have hs : IntKind.i64.signed = true := rfl
  simp only [hs, Bool.true_and]
  split
  · rename_i h
    simp at h
    omega
  · rename_i h
    simp at h
    omega
theorem rng_mark {k : Nat} : rng (IntKind.i64.wrap (-3000000 - (k : Int))) := rng_wrap _
theorem cell27_len (es : List Ent) (j : Nat) : (cell27 es j).length = 3 := by
  unfold cell27
  split <;> rfl
theorem row27_plain (es : List Ent) (m : Nat) : PlainC (row27 es m) := by
  intro v hv
  obtain ⟨j, _, hj⟩ := rows_mem hv
  simp only [cell27] at hj
  split at hj
  · simp [cellA] at hj
    rcases hj with rfl | rfl | rfl <;> exact ⟨fun N => by simp, fun σ => by simp [upV]⟩
  · simp [markA] at hj
    rcases hj with rfl | rfl | rfl <;> exact ⟨fun N => by simp, fun σ => by simp [upV]⟩
def K27 (es : List Ent) : ConW := ⟨fun X => [X 0], [.v (av es) es.length], fun σ => .slice (some ⟨σ 2, 0, none⟩) es.length (2 * (es.length + 64)), fun _ => [.cells (row27 es (es.length + 64)) 0]⟩
theorem con27 {es : List Ent} (hsm : es.length < 1099511627776) : ConWG Tab Tryz.prog 34 (K27 es) := by
  have hw : IntKind.i64.wrap ((es.length : Int) + 64) = ((es.length + 64 : Nat) : Int) := by
    rw [i64_small (by omega) (by omega)]; omega
  have hbo : ∀ k, ∀ p ∈ oW es.length (av es) (fill (cell27 es) (fun _ => zeroA3) (es.length + 64) k), p.1 < 3 ∧ BdO 3 p.2 := by
    intro k p hp
    simp only [oW, List.mem_cons, List.not_mem_nil, or_false] at hp
    rcases hp with rfl | rfl | rfl
    · exact ⟨by simp, trivial⟩
    · exact ⟨by simp, by simp [BdO]⟩
    · refine ⟨by simp, ?_⟩
      intro v hv
      obtain ⟨j, hj0, hj⟩ := rows_mem hv
      simp only at hj
      split at hj
      · exact (row27_plain es (j + 1) v (by rw [row27, rows_succ]; exact List.mem_append_right _ hj)).1 _
      · simp [zeroA3] at hj; rcases hj with rfl | rfl | rfl <;> simp
  have hF : ∀ k ts, (∀ p ∈ ts, Bd 3 p.2) → smallN ts = true → Fits 3 ts (oW es.length (av es) (fill (cell27 es) (fun _ => zeroA3) (es.length + 64) k)) 3 := fun k ts h1 h2 => ⟨h2, rfl, h1, hbo k, by decide, by decide⟩
  have hcop : copies [Value.int .i8 0, .string ⟨#[]⟩, .string ⟨#[]⟩] (es.length + 64) = fill (cell27 es) (fun _ => zeroA3) (es.length + 64) 0 := by rw [copies_rows, fill_zero]; rfl
  have hful : row27 es (es.length + 64) = fill (cell27 es) (fun _ => zeroA3) (es.length + 64) (es.length + 64) := by rw [fill_full]; rfl
  have hcap : capOf (2 * (es.length + 64)) = es.length + 64 := by simp [capOf]
  refine conW_run hP1 (s := q27 es.length (es.length + 64) (av es) (row27 es (es.length + 64))) (fun pr w0 hG => withL_ok (smM_ok pr w0 hG) (fn := Tryz.f34) (c := .block 0 (.loop (codeAt Tryz.f34 [0, 0, 1, 0, 1, 1]))) (by kernel_rfl) (by kernel_rfl) (block_end (by rw [hcop]; exact hF 0 _ (by simp [tW]) rfl) ?_))
    (c27_came es.length (es.length + 64) (av es) (row27 es (es.length + 64)) ⟨hw, hw, by omega, by omega⟩ (by omega) (by rw [hcap]; omega) (by omega) (by rw [hcap]; omega)) (by simp [K27, limit]) ⟨rfl, rfl, by simp, by rw [hful]; exact fun p hp => hbo _ p hp, by decide, (by decide : 2 ≤ 3)⟩ (by simp [K27]) (by simp [K27]) (by intro ι ι' f g h; simp [K27, h 0 (by simp [K27])]) (by intro σ; simp [K27, upV]) (by intro σ; simp [K27, upO, (row27_plain _ _).map]) rfl ?_
  · rw [hcop, hful]
    have hh : Here E1 34 [0, 0, 1, 0, 1, 1] (codeAt Tryz.f34 [0, 0, 1, 0, 1, 1]) := codeAt_here (fn := Tryz.f34) (by kernel_rfl) (by kernel_rfl)
    refine rounds_tri (T := { k : Nat // k ≤ es.length + 64 }) ⟨38, fun t => tW es.length (es.length + 64) t.1, fun t => oW es.length (av es) (fill (cell27 es) (fun _ => zeroA3) (es.length + 64) t.1), fun _ => 3, fun t => es.length + 64 - t.1⟩ ?_ ⟨0, Nat.zero_le _⟩
    rintro ⟨k, hk⟩
    have hlen : (fill (cell27 es) (fun _ => zeroA3) (es.length + 64) k).length = (es.length + 64) * 3 := by
      rw [fill_length (s := 3) (fun _ _ => cell27_len _ _) (fun _ _ => rfl)]
    have hk0 : 0 + Int.toNat (k : Int) * 3 = k * 3 := by simp
    by_cases hlt : k < es.length + 64
    · have hput := fill_put (g := cell27 es) (z := fun _ => zeroA3) (s := 3) (m := es.length + 64) (k := k) (fun _ _ => cell27_len _ _) (fun _ _ => rfl) hlt
      have hk1 := i64_succ (k := k) (by omega)
      by_cases hkn : k < es.length
      · have hek : es[k]? = some es[k] := List.getElem?_eq_getElem hkn
        have hc := e27_0 es.length (es.length + 64) k (av es) (fill (cell27 es) (fun _ => zeroA3) (es.length + 64) k) es[k].1 es[k].2.1 es[k].2.2 (by simp; omega) (by simp; omega) (by omega) (av_get hkn) (by omega) ⟨by rw [hk0, hlen]; omega, rfl⟩
        rw [hk0, hk1] at hc
        have hcell : [Value.int .i8 es[k].1, .string es[k].2.1, .string es[k].2.2] = cell27 es k := by simp only [cell27, hek, cellA]
        rw [hcell, hput] at hc
        exact on_came hP1 (smM_ok pr w0 hG) hh hc ⟨k + 1, hlt⟩ rfl rfl rfl (by simp only; omega) (hF _ _ (by simp [tW]) rfl)
      · have hek : es[k]? = none := List.getElem?_eq_none (by omega)
        have hc := e27_1 es.length (es.length + 64) k (av es) (fill (cell27 es) (fun _ => zeroA3) (es.length + 64) k) 0 ⟨#[]⟩ ⟨#[]⟩ (by simp; omega) (by simp; omega) rng_mark (by omega) ⟨by rw [hk0, hlen]; omega, rfl⟩
        rw [hk0, hk1] at hc
        have hcell : [Value.int .i8 0, .string ⟨#[]⟩, .string ⟨(markT (IntKind.i64.wrap (-3000000 - (k : Int)))).toArray⟩] = cell27 es k := by simp only [cell27, hek, markA]
        rw [hcell, hput] at hc
        exact on_came hP1 (smM_ok pr w0 hG) hh hc ⟨k + 1, hlt⟩ rfl rfl rfl (by simp only; omega) (hF _ _ (by simp [tW]) rfl)
    · have hk' : k = es.length + 64 := by omega
      subst hk'
      have hc := cut_came (e27_2 es.length (es.length + 64) (es.length + 64) (av es) (fill (cell27 es) (fun _ => zeroA3) (es.length + 64) (es.length + 64)) 0 ⟨#[]⟩ ⟨#[]⟩ (by simp)) (ts' := [(0, .chan (some 1)), (3, .slice (some ⟨2, 0, none⟩) (es.length + 64) (2 * (es.length + 64)))]) (by simp)
      exact out_came hP1 (smM_ok pr w0 hG) hh hc (by simp) (by simp) (hF _ _ (by simp) rfl) ⟨rfl, rfl, rfl⟩
  · intro j o' hj
    match j, hj with
    | 0, hj => exact hj
    | j + 1, hj => simp [K27] at hj
def K16 (es : List Ent) : ConW := ⟨fun X => [X 0, X 1], [.v (av es) es.length, .v (av es) es.length], fun _ => .bool true, fun _ => []⟩
theorem con16 {G : Prot → World → Prop} {es : List Ent} (hsm : es.length < 9223372036854775807) : ConWG G Tryz.prog 42 (K16 es) := by
  have hF : ∀ ts, (∀ p ∈ ts, Bd 4 p.2) → smallN ts = true → Fits 4 ts (oE es.length (av es) (av es)) 4 := fun ts h1 h2 => ⟨h2, rfl, h1, by simp [oE, BdO], by decide, by decide⟩
  refine conW_read hP1 (s := q16 es.length (av es) (av es)) (fun pr w0 _ => withL_ok (sm0_ok pr w0) (fn := Tryz.f42) (c := .block 0 (.loop (codeAt Tryz.f42 [0, 0, 1, 0, 1, 1]))) (by kernel_rfl) (by kernel_rfl) (block_end (hF _ (by simp [tE15]) rfl) ?_)) (c16_came es.length (av es) (av es) (by simp)) (by simp [limit]) (hF _ (by simp) rfl) (by simp) (pure_bool _) (by intro ι ι' f g h; simp [h 0 (by simp), h 1 (by simp)]) (by intro σ; simp [upV])
  have hh : Here E1 42 [0, 0, 1, 0, 1, 1] (codeAt Tryz.f42 [0, 0, 1, 0, 1, 1]) := codeAt_here (fn := Tryz.f42) (by kernel_rfl) (by kernel_rfl)
  refine rounds_tri (T := { k : Nat // k ≤ es.length }) ⟨26, fun t => tE15 t.1, fun _ => oE es.length (av es) (av es), fun _ => 4, fun t => es.length - t.1⟩ ?_ ⟨0, Nat.zero_le _⟩
  rintro ⟨k, hk⟩
  by_cases hlt : k < es.length
  · refine on_came hP1 (sm0_ok pr w0) hh (e16_1 es.length k (av es) (av es) es[k].1 es[k].2.1 es[k].2.2 (by simp; omega) (by omega) (av_get hlt) (av_get hlt) (by simp)) ⟨k + 1, hlt⟩ ?_ rfl rfl (by simp only; omega) (hF _ (by simp [tE15]) rfl)
    rw [i64_succ (by omega)]; rfl
  · have hc := cut_came (e16_2 es.length k (av es) (av es) 0 ⟨#[]⟩ ⟨#[]⟩ (by simp; omega)) (ts' := [(4, .bool false)]) (by simp)
    exact out_came hP1 (sm0_ok pr w0) hh hc (by simp) (by simp) (hF _ (by simp) rfl) ⟨rfl, rfl, rfl⟩
theorem con17 {o n cap : Nat} {ds : List Deep} (hvs : ∀ k, n ≤ k → k < n + 64 → ds[o + k]? = some (.val (.int .u8 (mkB k)))) (hlen : n + 64 < 9223372036854775807) (hcap : n + 64 ≤ capOf cap) :
    ConOk Tryz.prog 24 ⟨fun σ => [.slice (some ⟨σ 0, o, none⟩) n cap], oR ds, 1, fun _ => .bool true, fun _ => []⟩ := by
  have hF : ∀ ts, (∀ p ∈ ts, Bd 1 p.2) → smallN ts = true → Fits 1 ts (oR ds) 1 := fun ts h1 h2 => ⟨h2, rfl, h1, by simp [oR, BdO], by decide, by decide⟩
  have hw : IntKind.i64.wrap ((n : Int) + 64) = ((n + 64 : Nat) : Int) := by
    rw [i64_small (by omega) (by omega)]; omega
  have hw' : (Int.toNat (IntKind.i64.wrap ((n : Int) + 64)) - 0) = n + 64 := by rw [hw]; omega
  refine con_read hP1 (s := q17 o n cap ds) (fun pr w0 => withL_ok (sm0_ok pr w0) (fn := Tryz.f24) (c := .block 0 (.loop (codeAt Tryz.f24 [0, 0, 1, 0, 1, 1]))) (by kernel_rfl) (by kernel_rfl) (block_end (hF _ (by simp [tS17]) rfl) ?_)) (c17_came o n cap ds (by rw [hw]; omega) (by rw [hw]; omega) (by omega) (by omega)) (hF _ (by simp) rfl) (hF _ (by simp) rfl) (by simp) (by simp) (by intro σ; simp [upV]) (by intro σ; simp [upV])
  rw [hw']
  have hh : Here E1 24 [0, 0, 1, 0, 1, 1] (codeAt Tryz.f24 [0, 0, 1, 0, 1, 1]) := codeAt_here (fn := Tryz.f24) (by kernel_rfl) (by kernel_rfl)
  refine rounds_tri (T := { k : Nat // n ≤ k ∧ k ≤ n + 64 }) ⟨27, fun t => tS17 (o + 0 * 1) (n + 64) (cap - 2 * 0) t.1, fun _ => oR ds, fun _ => 1, fun t => n + 64 - t.1⟩ ?_ ⟨n, Nat.le_refl _, by omega⟩
  rintro ⟨k, hk1, hk⟩
  by_cases hlt : k < n + 64
  · refine on_came hP1 (sm0_ok pr w0) hh (e17_1 (o + 0 * 1) (n + 64) (cap - 2 * 0) k ds (mkB k) (by simp; omega) (by omega) (by have := hvs k hk1 hlt; rw [Nat.zero_mul, Nat.add_zero, Nat.mul_one]; exact this) (by simp [mkB])) ⟨k + 1, by omega, by omega⟩ ?_ rfl rfl (by simp only; omega) (hF _ (by simp [tS17]) rfl)
    rw [i64_succ (by omega)]; rfl
  · have hc := cut_came (e17_2 (o + 0 * 1) (n + 64) (cap - 2 * 0) k ds 0 (by simp; omega)) (ts' := []) (by simp)
    exact out_came hP1 (sm0_ok pr w0) hh hc (by simp) (by simp) (hF _ (by simp) rfl) ⟨rfl, rfl, rfl⟩
theorem con18 {o n cap : Nat} {ds : List Deep} (hvs : ∀ k, n ≤ k → k < n + 64 → ds[o + k * 3 + 1 + 1]? = some (.val (.string ⟨(markT (IntKind.i64.wrap (-3000000 - (k : Int)))).toArray⟩))) (hlen : n < 1099511627776) (hcap : n + 64 ≤ capOf cap) :
    ConG Tab Tryz.prog 25 ⟨fun σ => [.slice (some ⟨σ 0, o, none⟩) n cap], oR ds, 1, fun _ => .bool true, fun _ => []⟩ := by
  have hF : ∀ ts, (∀ p ∈ ts, Bd 1 p.2) → smallN ts = true → Fits 1 ts (oR ds) 1 := fun ts h1 h2 => ⟨h2, rfl, h1, by simp [oR, BdO], by decide, by decide⟩
  have hw : IntKind.i64.wrap ((n : Int) + 64) = ((n + 64 : Nat) : Int) := by
    rw [i64_small (by omega) (by omega)]; omega
  have hw' : (Int.toNat (IntKind.i64.wrap ((n : Int) + 64)) - 0) = n + 64 := by rw [hw]; omega
  refine conG_read hP1 (s := q18 o n cap ds) (fun pr w0 hG => withL_ok (smM_ok pr w0 hG) (fn := Tryz.f25) (c := .block 0 (.loop (codeAt Tryz.f25 [0, 0, 1, 0, 1, 1]))) (by kernel_rfl) (by kernel_rfl) (block_end (hF _ (by simp [tS17]) rfl) ?_)) (c18_came o n cap ds (by rw [hw]; omega) (by rw [hw]; omega) (by omega) (by omega)) (hF _ (by simp) rfl) (hF _ (by simp) rfl) (by simp) (by simp) (by intro σ; simp [upV]) (by intro σ; simp [upV])
  rw [hw']
  have hh : Here E1 25 [0, 0, 1, 0, 1, 1] (codeAt Tryz.f25 [0, 0, 1, 0, 1, 1]) := codeAt_here (fn := Tryz.f25) (by kernel_rfl) (by kernel_rfl)
  refine rounds_tri (T := { k : Nat // n ≤ k ∧ k ≤ n + 64 }) ⟨29, fun t => tS17 (o + 0 * 3) (n + 64) (cap - 2 * 0) t.1, fun _ => oR ds, fun _ => 1, fun t => n + 64 - t.1⟩ ?_ ⟨n, Nat.le_refl _, by omega⟩
  rintro ⟨k, hk1, hk⟩
  by_cases hlt : k < n + 64
  · refine on_came hP1 (smM_ok pr w0 hG) hh (e18_1 (o + 0 * 3) (n + 64) (cap - 2 * 0) k ds ⟨(markT (IntKind.i64.wrap (-3000000 - (k : Int)))).toArray⟩ (by simp; omega) (by omega) (by have := hvs k hk1 hlt; rw [Nat.zero_mul, Nat.add_zero]; exact this) rng_mark (by simp)) ⟨k + 1, by omega, by omega⟩ ?_ rfl rfl (by simp only; omega) (hF _ (by simp [tS17]) rfl)
    rw [i64_succ (by omega)]; rfl
  · have hc := cut_came (e18_2 (o + 0 * 3) (n + 64) (cap - 2 * 0) k ds ⟨#[]⟩ (by simp; omega)) (ts' := []) (by simp)
    exact out_came hP1 (smM_ok pr w0 hG) hh hc (by simp) (by simp) (hF _ (by simp) rfl) ⟨rfl, rfl, rfl⟩
end Go.Abs
end
section
namespace Go.Abs
open Go.Proofs
set_option maxRecDepth 100000
def GT : Prot → World → Prop := fun _ _ => True
theorem gt_stands : StandsL GT := fun _ _ _ _ _ _ _ => trivial
theorem ConWG.toT {G : Prot → World → Prop} {P : Program} {f : FuncId} {c : ConW} (h : ConWG GT P f c) : ConWG G P f c :=
  ⟨h.lim, h.bd, h.ap, h.uv, h.un, by obtain ⟨μ, h1, h2⟩ := h.run; exact ⟨μ, fun pr w0 _ ι w hS => h1 pr w0 trivial ι w hS, h2⟩⟩
theorem out_keep {P : Program} {E : Env} {pr : Prot} {w0 : World} (hP : Okk P E) {s : Sm} (hs : SmOk P E pr w0 s) {f : Nat} {p : List Nat} {c : Code} (hh : Here E f p c) {n : Nat}
    {T : Type} {L : Lp T} {t : T} {Ψ : Post} {N : Nat} {orc : List Ans} {e : Exit}
    {ts1 ts : List (Nat × Value)} {os1 os : List (Nat × AObj)} {n1 nx : Nat} (hc : Ran (codeO P E s noRun n f p c (L.fr t) (L.hp t) orc True) e L.sz ts1 os1 n1)
    (ht : ∀ p ∈ ts, p ∈ ts1) (ho : ∀ p ∈ os, p ∈ os1) (hne : e ≠ .normal) (hnp : ∀ ch, e ≠ .panic ch) (hF : Fits N ts os nx) (hΨ : Ψ e (mkFr L.sz ts) (mkHp nx os)) :
    Tri P pr w0 N c (L.fr t) (L.hp t) (LoopPost L t Ψ) := by
  refine (tri_came_via hP.hE hP.ng hP.mix hs noRun_ok hh hc.of (fun n => n) (fun p hp => by rw [upV_id]; exact ht p hp) (fun p hp => by rw [upO_id]; exact ho p hp) (fun p _ q _ h => h) hnp hF.st hF.so hF.bt hF.bo hF.lim (fun _ _ => rfl) hF.hN).to ?_
  rintro e f μ ⟨rfl, rfl, rfl⟩
  exact .inr ⟨hne, hΨ⟩
abbrev Idd := ByteArray × ByteArray
def cellI (a : Idd) : List Value := [.string a.1, .string a.2]
def iv (l : List Idd) : List Value := rows (fun j => cellI (l.getD j (⟨#[]⟩, ⟨#[]⟩))) l.length
def zeroI2 : List Value := [.string ⟨#[]⟩, .string ⟨#[]⟩]
def markI (j : Nat) : List Value := [.string ⟨#[]⟩, .string ⟨(markT (IntKind.i64.wrap (-3000000 - (j : Int)))).toArray⟩]
def cellWI (l : List Idd) (j : Nat) : List Value := match l[j]? with
  | some a => cellI a
  | none => markI j
def rowI (l : List Idd) (m : Nat) : List Value := rows (cellWI l) m
structure Hd where
  k : Int
  pa : ByteArray
  bs : List Int
  es : List Ent
  ver : Int
  eph : Bool
  sq : Bool
  ses : Int
  tmo : Int
  who : List Idd
def rqCells (h : Hd) (d a w o : Deep) : List Deep := [.val (.int .i8 h.k), .val (.string h.pa), d, a, .val (.int .i32 h.ver), .val (.bool h.eph), .val (.bool h.sq), .val (.int .i64 h.ses), .val (.int .i32 h.tmo), w, o]
def rqVals (h : Hd) (d a w o : Value) : List Value := [.int .i8 h.k, .string h.pa, d, a, .int .i32 h.ver, .bool h.eph, .bool h.sq, .int .i64 h.ses, .int .i32 h.tmo, w, o]
def rqD (h : Hd) (ds : List Deep) (n : Nat) : List Deep := rqCells h (.slv (bv h.bs) h.bs.length) (.slv (av h.es) h.es.length) (.slv (iv h.who) h.who.length) (.sl ds n)
def wRow (r : List Deep) (n : Nat) : Deep := .rowc r n (2 * (n + 64))
def rqW (h : Hd) (ds : List Deep) (n : Nat) : List Deep := rqCells h (wRow ((row26 h.bs (h.bs.length + 64)).map .val) h.bs.length) (wRow ((row27 h.es (h.es.length + 64)).map .val) h.es.length) (wRow ((rowI h.who (h.who.length + 64)).map .val) h.who.length) (wRow ds n)
inductive Rq where
  | mk (h : Hd) (ops : List Rq)
mutual
def Rq.d : Rq → List Deep
  | .mk h ops => rqD h (rqsD ops) ops.length
def rqsD : List Rq → List Deep
  | [] => []
  | r :: rs => r.d ++ rqsD rs
end
def hd0 : Hd := ⟨0, ⟨#[]⟩, [], [], 0, false, false, 0, 0, []⟩
def nilV : Value := .slice none 0 0
def markR (j : Nat) : List Deep := rqCells { hd0 with ses := IntKind.i64.wrap (-3000000 - (j : Int)) } (.val nilV) (.val nilV) (.val nilV) (.val nilV)
def marksR (n : Nat) : List Deep := rows (fun j => markR (n + j)) 64
mutual
def Rq.w : Rq → List Deep
  | .mk h ops => rqW h (rqsW ops ++ marksR ops.length) ops.length
def rqsW : List Rq → List Deep
  | [] => []
  | r :: rs => r.w ++ rqsW rs
end
def rq0 : Rq := .mk hd0 []
theorem Rq.d_len (r : Rq) : r.d.length = 11 := by cases r; rw [Rq.d]; rfl
theorem Rq.w_len (r : Rq) : r.w.length = 11 := by cases r; rw [Rq.w]; rfl
theorem rows_cons {α : Type} (f : Nat → List α) (n : Nat) : rows f (n + 1) = f 0 ++ rows (fun j => f (j + 1)) n := by
  induction n with
  | zero => simp [rows]
  | succ n ih => rw [rows_succ, ih, rows_succ, List.append_assoc]
theorem rqsD_rows : ∀ (l : List Rq), rqsD l = rows (fun j => (l.getD j rq0).d) l.length
  | [] => by rw [rqsD]; rfl
  | r :: rs => by
    rw [rqsD, List.length_cons, rows_cons, rqsD_rows rs]
    rfl
theorem rqsW_rows : ∀ (l : List Rq), rqsW l = rows (fun j => (l.getD j rq0).w) l.length
  | [] => by rw [rqsW]; rfl
  | r :: rs => by
    rw [rqsW, List.length_cons, rows_cons, rqsW_rows rs]
    rfl
def cellWR (l : List Rq) (j : Nat) : List Deep := match l[j]? with
  | some r => r.w
  | none => markR j
def rowR (l : List Rq) (m : Nat) : List Deep := rows (cellWR l) m
theorem rows_add {α : Type} (f : Nat → List α) (n : Nat) : ∀ m, rows f (n + m) = rows f n ++ rows (fun j => f (n + j)) m
  | 0 => by simp [rows]
  | m + 1 => by rw [← Nat.add_assoc, rows_succ, rows_add f n m, rows_succ, List.append_assoc]
theorem rowR_eq (l : List Rq) : rowR l (l.length + 64) = rqsW l ++ marksR l.length := by
  rw [rowR, rows_add, rqsW_rows, marksR]
  congr 1
  · refine rows_ext fun j hj => ?_
    simp only [cellWR, List.getElem?_eq_getElem hj, List.getD_eq_getElem?_getD, Option.getD_some]
  · refine rows_ext fun j hj => ?_
    rw [cellWR, List.getElem?_eq_none (by omega)]
mutual
def Rq.parts : Rq → Nat
  | .mk h ops => 1 + h.bs.length + h.es.length + h.who.length + rqsParts ops
def rqsParts : List Rq → Nat
  | [] => 0
  | r :: rs => r.parts + rqsParts rs
end
theorem parts_mem : ∀ {l : List Rq} {r : Rq}, r ∈ l → r.parts ≤ rqsParts l
  | a :: l, r, h => by
    rw [rqsParts]
    rcases List.mem_cons.1 h with rfl | h
    · omega
    · have := parts_mem h; omega
theorem rqsParts_len : ∀ (l : List Rq), l.length ≤ rqsParts l
  | [] => by simp
  | a :: l => by
    have := rqsParts_len l
    have h1 : 1 ≤ a.parts := by cases a; rw [Rq.parts]; omega
    rw [rqsParts, List.length_cons]
    omega
structure Hd.big (h : Hd) : Prop where
  pa : h.pa.size ≤ 1125899906842624
  bs : h.bs.length ≤ 1125899906842624
  es : h.es.length ≤ 1125899906842624
  who : h.who.length ≤ 1125899906842624
mutual
def Rq.big : Rq → Prop
  | .mk h ops => h.big ∧ ops.length ≤ 1125899906842624 ∧ rqsBig ops
def rqsBig : List Rq → Prop
  | [] => True
  | r :: rs => r.big ∧ rqsBig rs
end
theorem big_mem : ∀ {l : List Rq} {r : Rq}, r ∈ l → rqsBig l → r.big
  | a :: l, r, h, hb => by
    rw [rqsBig] at hb
    rcases List.mem_cons.1 h with rfl | h
    · exact hb.1
    · exact big_mem h hb.2
theorem rqsD_get {l : List Rq} {k : Nat} (h : k < l.length) : List.take 11 (List.drop (0 + Int.toNat (k : Int) * 11) (rqsD l)) = l[k].d := by
  rw [Nat.zero_add, Int.toNat_natCast, rqsD_rows, rows_at (s := 11) (fun _ _ => Rq.d_len _) h, List.getD_eq_getElem?_getD, List.getElem?_eq_getElem h]; rfl
end Go.Abs
end
section
namespace Go.Abs
open Go.Proofs
set_option maxRecDepth 100000
def q15r (n : Nat) (vs us : List Value) : Sm := withL sm0 41 [1, 0, 1, 1] (piece 26 (tE15 0) (oE n vs us) 4 .ret (mkFr 26 [(4, .bool false)]) (mkHp 4 (oE n vs us)))
def q16r (n : Nat) (vs us : List Value) : Sm := withL sm0 42 [1, 0, 1, 1] (piece 26 (tE15 0) (oE n vs us) 4 .ret (mkFr 26 [(4, .bool false)]) (mkHp 4 (oE n vs us)))
theorem c15x_came (n : Nat) (m : Nat) (vs : List Value) (us : List Value) (h0 : ((↑n : Int) != (↑m : Int)) = true) :
    RanC (runO Tryz.prog E1 (sm0) noRun 100 41 [Value.chan (some 1), Value.chan (some 3)] (mkHp 4 (wordsOs [Wd.v vs n, Wd.v us m] 0 fun n => n)) [.skip 6, .b true] True) (.returned (Value.bool false)) [(0, AObj.rov vs), (1, AObj.word n 0), (2, AObj.rov us), (3, AObj.word m 2)] 4 :=
  cameCF_of (O := (True ∧ ((↑n : Int) != (↑m : Int)) = true)) (by kernel_rfl) ⟨trivial, h0⟩
theorem c15r_came (n : Nat) (vs : List Value) (us : List Value) (h0 : ((↑n : Int) != (↑n : Int)) = false) :
    RanC (runO Tryz.prog E1 (q15r n vs us) noRun 100 41 [Value.chan (some 1), Value.chan (some 3)] (mkHp 4 (wordsOs [Wd.v vs n, Wd.v us n] 0 fun n => n)) [.skip 6, .b false] True) (.returned (Value.bool false)) [(0, AObj.rov vs), (1, AObj.word n 0), (2, AObj.rov us), (3, AObj.word n 2)] 4 :=
  cameCF_of (O := ((True ∧ ((↑n : Int) != (↑n : Int)) = false) ∧ SelfP 26 (tE15 0) (oE n vs us) 4)) (by kernel_rfl) ⟨⟨trivial, h0⟩, selfP_true _ _ _ _⟩
theorem c16x_came (n : Nat) (m : Nat) (vs : List Value) (us : List Value) (h0 : ((↑n : Int) != (↑m : Int)) = true) :
    RanC (runO Tryz.prog E1 (sm0) noRun 100 42 [Value.chan (some 1), Value.chan (some 3)] (mkHp 4 (wordsOs [Wd.v vs n, Wd.v us m] 0 fun n => n)) [.skip 6, .b true] True) (.returned (Value.bool false)) [(0, AObj.rov vs), (1, AObj.word n 0), (2, AObj.rov us), (3, AObj.word m 2)] 4 :=
  cameCF_of (O := (True ∧ ((↑n : Int) != (↑m : Int)) = true)) (by kernel_rfl) ⟨trivial, h0⟩
theorem c16r_came (n : Nat) (vs : List Value) (us : List Value) (h0 : ((↑n : Int) != (↑n : Int)) = false) :
    RanC (runO Tryz.prog E1 (q16r n vs us) noRun 100 42 [Value.chan (some 1), Value.chan (some 3)] (mkHp 4 (wordsOs [Wd.v vs n, Wd.v us n] 0 fun n => n)) [.skip 6, .b false] True) (.returned (Value.bool false)) [(0, AObj.rov vs), (1, AObj.word n 0), (2, AObj.rov us), (3, AObj.word n 2)] 4 :=
  cameCF_of (O := ((True ∧ ((↑n : Int) != (↑n : Int)) = false) ∧ SelfP 26 (tE15 0) (oE n vs us) 4)) (by kernel_rfl) ⟨⟨trivial, h0⟩, selfP_true _ _ _ _⟩
theorem e16g_0 (n : Nat) (k : Nat) (vs : List Value) (us : List Value) (a : Int) (a' : Int) (s : ByteArray) (d : ByteArray) (s' : ByteArray) (d' : ByteArray) (h0 : decide ((↑k : Int) < (↑n : Int)) = true) (h1 : 0 ≤ (↑k : Int) ∧ (↑k : Int) < (↑n : Int)) (h2 : List.take 3 (List.drop (0 + Int.toNat (↑k : Int) * 3) vs) = [Value.int IntKind.i8 a, Value.string s, Value.string d]) (h3 : List.take 3 (List.drop (0 + Int.toNat (↑k : Int) * 3) us) = [Value.int IntKind.i8 a', Value.string s', Value.string d']) (h4 : (!(a == a' && (ByteArray.toList s == ByteArray.toList s' && (ByteArray.toList d == ByteArray.toList d' && true) && true))) = true) :
    Ran (codeO Tryz.prog E1 (sm0) noRun 100 42 [0, 0, 1, 0, 1, 1] (codeAt Tryz.f42 [0, 0, 1, 0, 1, 1]) (mkFr 26 (tE15 k)) (mkHp 4 (oE n vs us)) [.skip 4, .b true, .skip 2, .sym, .l [Value.int IntKind.i8 a, Value.string s, Value.string d], .skip 2, .sym, .l [Value.int IntKind.i8 a', Value.string s', Value.string d'], .skip 1, .b true] True) (Exit.ret) 26 [(0, Value.chan (some 1)), (1, Value.chan (some 3)), (4, Value.bool false), (5, Value.int IntKind.i64 (↑k : Int))] [(0, AObj.rov vs), (1, AObj.word n 0), (2, AObj.rov us), (3, AObj.word n 2)] 4 :=
  cameF_of (O := (((((((True ∧ decide ((↑k : Int) < (↑n : Int)) = true) ∧ 0 ≤ (↑k : Int) ∧ (↑k : Int) < (↑n : Int)) ∧ List.take 3 (List.drop (0 + Int.toNat (↑k : Int) * 3) vs) = [Value.int IntKind.i8 a, Value.string s, Value.string d]) ∧ 0 ≤ (↑k : Int) ∧ (↑k : Int) < (↑n : Int)) ∧ List.take 3 (List.drop (0 + Int.toNat (↑k : Int) * 3) us) = [Value.int IntKind.i8 a', Value.string s', Value.string d']) ∧ True ∧ True ∧ True ∧ True ∧ True ∧ True ∧ True ∧ True ∧ True ∧ True) ∧ (!(a == a' && (ByteArray.toList s == ByteArray.toList s' && (ByteArray.toList d == ByteArray.toList d' && true) && true))) = true)) (by kernel_rfl) ⟨⟨⟨⟨⟨⟨⟨trivial, h0⟩, h1⟩, h2⟩, h1⟩, h3⟩, ⟨trivial, ⟨trivial, ⟨trivial, ⟨trivial, ⟨trivial, ⟨trivial, ⟨trivial, ⟨trivial, ⟨trivial, trivial⟩⟩⟩⟩⟩⟩⟩⟩⟩⟩, h4⟩
theorem e16g_1 (n : Nat) (k : Nat) (vs : List Value) (us : List Value) (a : Int) (a' : Int) (s : ByteArray) (d : ByteArray) (s' : ByteArray) (d' : ByteArray) (h0 : decide ((↑k : Int) < (↑n : Int)) = true) (h1 : 0 ≤ (↑k : Int) ∧ (↑k : Int) < (↑n : Int)) (h2 : List.take 3 (List.drop (0 + Int.toNat (↑k : Int) * 3) vs) = [Value.int IntKind.i8 a, Value.string s, Value.string d]) (h3 : List.take 3 (List.drop (0 + Int.toNat (↑k : Int) * 3) us) = [Value.int IntKind.i8 a', Value.string s', Value.string d']) (h4 : (!(a == a' && (ByteArray.toList s == ByteArray.toList s' && (ByteArray.toList d == ByteArray.toList d' && true) && true))) = false) :
    Ran (codeO Tryz.prog E1 (sm0) noRun 100 42 [0, 0, 1, 0, 1, 1] (codeAt Tryz.f42 [0, 0, 1, 0, 1, 1]) (mkFr 26 (tE15 k)) (mkHp 4 (oE n vs us)) [.skip 4, .b true, .skip 2, .sym, .l [Value.int IntKind.i8 a, Value.string s, Value.string d], .skip 2, .sym, .l [Value.int IntKind.i8 a', Value.string s', Value.string d'], .skip 1, .b false] True) (Exit.normal) 26 [(0, Value.chan (some 1)), (1, Value.chan (some 3)), (4, Value.bool false), (5, Value.int IntKind.i64 (IntKind.wrap IntKind.i64 ((↑k : Int) + 1)))] [(0, AObj.rov vs), (1, AObj.word n 0), (2, AObj.rov us), (3, AObj.word n 2)] 4 :=
  cameF_of (O := (((((((True ∧ decide ((↑k : Int) < (↑n : Int)) = true) ∧ 0 ≤ (↑k : Int) ∧ (↑k : Int) < (↑n : Int)) ∧ List.take 3 (List.drop (0 + Int.toNat (↑k : Int) * 3) vs) = [Value.int IntKind.i8 a, Value.string s, Value.string d]) ∧ 0 ≤ (↑k : Int) ∧ (↑k : Int) < (↑n : Int)) ∧ List.take 3 (List.drop (0 + Int.toNat (↑k : Int) * 3) us) = [Value.int IntKind.i8 a', Value.string s', Value.string d']) ∧ True ∧ True ∧ True ∧ True ∧ True ∧ True ∧ True ∧ True ∧ True ∧ True) ∧ (!(a == a' && (ByteArray.toList s == ByteArray.toList s' && (ByteArray.toList d == ByteArray.toList d' && true) && true))) = false)) (by kernel_rfl) ⟨⟨⟨⟨⟨⟨⟨trivial, h0⟩, h1⟩, h2⟩, h1⟩, h3⟩, ⟨trivial, ⟨trivial, ⟨trivial, ⟨trivial, ⟨trivial, ⟨trivial, ⟨trivial, ⟨trivial, ⟨trivial, trivial⟩⟩⟩⟩⟩⟩⟩⟩⟩⟩, h4⟩
theorem first_off {α : Type} [DecidableEq α] (z : α) : ∀ {l m : List α}, l.length = m.length → l ≠ m → ∃ k, k < l.length ∧ l.getD k z ≠ m.getD k z ∧ ∀ j, j < k → l.getD j z = m.getD j z
  | [], [], _, h => absurd rfl h
  | a :: l, b :: m, hl, h => by
    by_cases hab : a = b
    · subst hab
      obtain ⟨k, h1, h2, h3⟩ := first_off z (l := l) (m := m) (by simpa using hl) (fun e => h (by rw [e]))
      refine ⟨k + 1, by simpa using h1, by simpa using h2, fun j hj => ?_⟩
      cases j with
      | zero => rfl
      | succ j => simpa using h3 j (by omega)
    · exact ⟨0, by simp, by simpa using hab, fun j hj => absurd hj (by omega)⟩
def kn15g (bs cs : List Int) : ConW := ⟨fun X => [X 0, X 1], [.v (bv bs) bs.length, .v (bv cs) cs.length], fun _ => .bool (decide (bs = cs)), fun _ => []⟩
theorem con15g {G : Prot → World → Prop} {bs cs : List Int} (hb : bs.length < 9223372036854775807) : ConWG G Tryz.prog 41 (kn15g bs cs) := by
  have hA : ∀ x ∈ [Value.chan (some 1), Value.chan (some 3)], Bd 4 x := by simp
  have ap : ∀ (ι ι' : Ren) (f g : Nat → Value), (∀ i, i < 2 → conc ι (f i) = conc ι' (g i)) → ([f 0, f 1]).map (conc ι) = ([g 0, g 1]).map (conc ι') := by
    intro ι ι' f g h
    simp [h 0 (by decide), h 1 (by decide)]
  by_cases hl : bs.length = cs.length
  · by_cases he : bs = cs
    · subst he
      have := con15 (G := G) (bs := bs) hb
      unfold kn15g
      rw [decide_eq_true rfl]
      exact this
    · obtain ⟨k0, hk0, hne, heq⟩ := first_off 0 hl he
      unfold kn15g
      rw [decide_eq_false he, ← hl]
      have hF : ∀ ts, (∀ p ∈ ts, Bd 4 p.2) → smallN ts = true → Fits 4 ts (oE bs.length (bv bs) (bv cs)) 4 := fun ts h1 h2 => ⟨h2, rfl, h1, by simp [oE, BdO], by decide, by decide⟩
      refine conW_read hP1 (s := q15r bs.length (bv bs) (bv cs)) (fun pr w0 _ => withL_ok (sm0_ok pr w0) (fn := Tryz.f41) (c := .block 0 (.loop (codeAt Tryz.f41 [0, 0, 1, 0, 1, 1]))) (by kernel_rfl) (by kernel_rfl) (block_ret (hF _ (by simp [tE15]) rfl) ?_)) (c15r_came bs.length (bv bs) (bv cs) (by simp)) (by simp [limit]) (hF _ (by simp) rfl) hA (pure_bool _) ap (by intro σ; simp [upV])
      have hh : Here E1 41 [0, 0, 1, 0, 1, 1] (codeAt Tryz.f41 [0, 0, 1, 0, 1, 1]) := codeAt_here (fn := Tryz.f41) (by kernel_rfl) (by kernel_rfl)
      refine rounds_tri (T := { k : Nat // k ≤ k0 }) ⟨26, fun t => tE15 t.1, fun _ => oE bs.length (bv bs) (bv cs), fun _ => 4, fun t => bs.length - t.1⟩ ?_ ⟨0, Nat.zero_le _⟩
      rintro ⟨k, hk⟩
      by_cases hlt : k < k0
      · refine on_came hP1 (sm0_ok pr w0) hh (e15_1 bs.length k (bv bs) (bv cs) (bs.getD k 0) (cs.getD k 0) (by simp; omega) (by omega) (bv_get (by omega)) (bv_get (by omega)) (by rw [heq k hlt]; simp)) ⟨k + 1, hlt⟩ ?_ rfl rfl (by simp only; omega) (hF _ (by simp [tE15]) rfl)
        rw [i64_succ (by omega)]; rfl
      · have : k = k0 := by omega
        subst this
        have hc := cut_came (e15_0 bs.length k (bv bs) (bv cs) (bs.getD k 0) (cs.getD k 0) (by simp; omega) (by omega) (bv_get (by omega)) (bv_get (by omega)) (by simpa using hne)) (ts' := [(4, .bool false)]) (by simp)
        exact out_came hP1 (sm0_ok pr w0) hh hc (by simp) (by simp) (hF _ (by simp) rfl) ⟨rfl, rfl, rfl⟩
  · unfold kn15g
    rw [decide_eq_false (fun e => hl (by rw [e]))]
    exact conW_read hP1 (s := sm0) (fun pr w0 _ => sm0_ok pr w0) (c15x_came bs.length cs.length (bv bs) (bv cs) (by simp; omega)) (by simp [limit]) ⟨rfl, rfl, by simp, by simp [BdO], by decide, by simp⟩ hA (pure_bool _) ap (by intro σ; simp [upV])
def kn16g (bs cs : List Ent) : ConW := ⟨fun X => [X 0, X 1], [.v (av bs) bs.length, .v (av cs) cs.length], fun _ => .bool (decide (bs = cs)), fun _ => []⟩
theorem av_at {es : List Ent} {k : Nat} (h : k < es.length) : List.take 3 (List.drop (0 + Int.toNat (k : Int) * 3) (av es)) = cellA (es.getD k (0, ⟨#[]⟩, ⟨#[]⟩)) := by
  rw [Int.toNat_natCast, av_get h, List.getD_eq_getElem?_getD, List.getElem?_eq_getElem h]; rfl
theorem str_eq (s t : ByteArray) : (s.toList == t.toList) = decide (s = t) := by
  rw [Lib.toList_data, Lib.toList_data]
  by_cases h : s = t
  · subst h; simp
  · rw [decide_eq_false h]
    obtain ⟨a⟩ := s
    obtain ⟨b⟩ := t
    exact beq_false_of_ne fun e => h (congrArg ByteArray.mk (Array.ext' e))
theorem ent_eq (x y : Ent) : (x.1 == y.1 && (x.2.1.toList == y.2.1.toList && (x.2.2.toList == y.2.2.toList && true) && true)) = decide (x = y) := by
  obtain ⟨a, s, d⟩ := x
  obtain ⟨a', s', d'⟩ := y
  simp only [str_eq, Bool.and_true]
  rw [Bool.eq_iff_iff]
  simp
theorem con16g {G : Prot → World → Prop} {bs cs : List Ent} (hb : bs.length < 9223372036854775807) : ConWG G Tryz.prog 42 (kn16g bs cs) := by
  have hA : ∀ x ∈ [Value.chan (some 1), Value.chan (some 3)], Bd 4 x := by simp
  have ap : ∀ (ι ι' : Ren) (f g : Nat → Value), (∀ i, i < 2 → conc ι (f i) = conc ι' (g i)) → ([f 0, f 1]).map (conc ι) = ([g 0, g 1]).map (conc ι') := by
    intro ι ι' f g h
    simp [h 0 (by decide), h 1 (by decide)]
  by_cases hl : bs.length = cs.length
  · by_cases he : bs = cs
    · subst he
      have := con16 (G := G) (es := bs) hb
      unfold kn16g
      rw [decide_eq_true rfl]
      exact this
    · obtain ⟨k0, hk0, hne, heq⟩ := first_off (0, ⟨#[]⟩, ⟨#[]⟩) hl he
      unfold kn16g
      rw [decide_eq_false he, ← hl]
      have hF : ∀ ts, (∀ p ∈ ts, Bd 4 p.2) → smallN ts = true → Fits 4 ts (oE bs.length (av bs) (av cs)) 4 := fun ts h1 h2 => ⟨h2, rfl, h1, by simp [oE, BdO], by decide, by decide⟩
      refine conW_read hP1 (s := q16r bs.length (av bs) (av cs)) (fun pr w0 _ => withL_ok (sm0_ok pr w0) (fn := Tryz.f42) (c := .block 0 (.loop (codeAt Tryz.f42 [0, 0, 1, 0, 1, 1]))) (by kernel_rfl) (by kernel_rfl) (block_ret (hF _ (by simp [tE15]) rfl) ?_)) (c16r_came bs.length (av bs) (av cs) (by simp)) (by simp [limit]) (hF _ (by simp) rfl) hA (pure_bool _) ap (by intro σ; simp [upV])
      have hh : Here E1 42 [0, 0, 1, 0, 1, 1] (codeAt Tryz.f42 [0, 0, 1, 0, 1, 1]) := codeAt_here (fn := Tryz.f42) (by kernel_rfl) (by kernel_rfl)
      refine rounds_tri (T := { k : Nat // k ≤ k0 }) ⟨26, fun t => tE15 t.1, fun _ => oE bs.length (av bs) (av cs), fun _ => 4, fun t => bs.length - t.1⟩ ?_ ⟨0, Nat.zero_le _⟩
      rintro ⟨k, hk⟩
      by_cases hlt : k < k0
      · refine on_came hP1 (sm0_ok pr w0) hh (e16g_1 bs.length k (av bs) (av cs) _ _ _ _ _ _ (by simp; omega) (by omega) (av_at (by omega)) (av_at (by omega)) (by rw [ent_eq, decide_eq_true (heq k hlt)]; rfl)) ⟨k + 1, hlt⟩ ?_ rfl rfl (by simp only; omega) (hF _ (by simp [tE15]) rfl)
        rw [i64_succ (by omega)]; rfl
      · have : k = k0 := by omega
        subst this
        have hc := cut_came (e16g_0 bs.length k (av bs) (av cs) _ _ _ _ _ _ (by simp; omega) (by omega) (av_at (by omega)) (av_at (by omega)) (by rw [ent_eq, decide_eq_false hne]; rfl)) (ts' := [(4, .bool false)]) (by simp)
        exact out_came hP1 (sm0_ok pr w0) hh hc (by simp) (by simp) (hF _ (by simp) rfl) ⟨rfl, rfl, rfl⟩
  · unfold kn16g
    rw [decide_eq_false (fun e => hl (by rw [e]))]
    exact conW_read hP1 (s := sm0) (fun pr w0 _ => sm0_ok pr w0) (c16x_came bs.length cs.length (av bs) (av cs) (by simp; omega)) (by simp [limit]) ⟨rfl, rfl, by simp, by simp [BdO], by decide, by simp⟩ hA (pure_bool _) ap (by intro σ; simp [upV])
end Go.Abs
end
section
namespace Go.Abs
open Go.Proofs
set_option maxRecDepth 100000
def wsRq (h : Hd) (ds : List Deep) (n : Nat) : List Wd := [.v (bv h.bs) h.bs.length, .v (av h.es) h.es.length, .v (iv h.who) h.who.length, .d ds n]
def kn20 (h : Hd) (ds : List Deep) (n : Nat) (N V : Int) : ConW := ⟨fun X => [.agg ⟨rqVals h (X 0) (X 1) (X 2) (X 3)⟩, .int .i64 N], wsRq h ds n, fun _ => .int .i64 V, fun _ => []⟩
def oRq (h : Hd) (ds : List Deep) (n : Nat) : List (Nat × AObj) := [(0, .rov (bv h.bs)), (1, .word h.bs.length 0), (2, .rov (av h.es)), (3, .word h.es.length 2), (4, .rov (iv h.who)), (5, .word h.who.length 4), (6, .ro ds), (7, .word n 6)]
def boxRq (h : Hd) : AObj := .cells (rqVals h (.chan (some 1)) (.chan (some 3)) (.chan (some 5)) (.chan (some 7))) 0
def t20 (N : Int) (k : Nat) : List (Nat × Value) := [(1, .int .i64 N), (2, .pointer (some ⟨8, 0, none⟩)), (5, .int .i64 k)]
def g20 (h : Hd) (ds : List Deep) (n : Nat) (N V : Int) : List Value → Hp → Option (List Value × ConW × Prop) := fun args _ => match args with
  | [.agg ⟨[_, _, d, a, _, _, _, _, _, w, o]⟩, .int .i64 _] => some ([d, a, w, o], kn20 h ds n N V, True)
  | _ => none
def s20 (h : Hd) (ds : List Deep) (n : Nat) (N V : Int) : Sm := withQ sm0 20 (fnP (g20 h ds n N V))
theorem e20a_came (u : Hd) (u1 : Hd) (ds : List Deep) (d1 : List Deep) (n : Nat) (n1 : Nat) (k : Nat) (N : Int) (V : Int) (h0 : decide ((↑k : Int) < (↑n : Int)) = true) (h1 : decide (N ≤ 20000) = true) (h2 : 0 ≤ (↑k : Int) ∧ (↑k : Int) < (↑n : Int)) (h3 : List.take 11 (List.drop (0 + Int.toNat (↑k : Int) * 11) ds) = rqD u1 d1 n1) :
    Ran (codeO Tryz.prog E1 (s20 u1 d1 n1 N V) noRun 100 20 [0, 0, 1, 0, 1, 1] (codeAt Tryz.f20 [0, 0, 1, 0, 1, 1]) (mkFr 39 (t20 N k)) (mkHp 9 (oRq u ds n ++ [(8, boxRq u)])) [.skip 6, .b true, .skip 1, .b true, .skip 1, .b true, .b true, .skip 3, .sym, .dp (rqD u1 d1 n1)] True) (Exit.normal) 39 [(1, Value.int .i64 V), (2, Value.pointer (some ⟨8, 0, none⟩)), (5, Value.int .i64 (IntKind.wrap .i64 ((↑k : Int) + 1)))] [(0, AObj.rov (bv u.bs)), (1, AObj.word (List.length u.bs) 0), (2, AObj.rov (av u.es)), (3, AObj.word (List.length u.es) 2), (4, AObj.rov (iv u.who)), (5, AObj.word (List.length u.who) 4), (6, AObj.ro ds), (7, AObj.word n 6), (8, AObj.cells [Value.int .i8 u.k, Value.string u.pa, Value.chan (some 1), Value.chan (some 3), Value.int .i32 u.ver, Value.bool u.eph, Value.bool u.sq, Value.int .i64 u.ses, Value.int .i32 u.tmo, Value.chan (some 5), Value.chan (some 7)] 0), (9, AObj.rov (bv u1.bs)), (10, AObj.word (List.length u1.bs) 9), (11, AObj.rov (av u1.es)), (12, AObj.word (List.length u1.es) 11), (13, AObj.rov (iv u1.who)), (14, AObj.word (List.length u1.who) 13), (15, AObj.ro d1), (16, AObj.word n1 15)] 17 :=
  cameF_of (O := (((((((True ∧ (decide ((↑k : Int) < (↑n : Int)) == true) = true) ∧ (decide ((↑k : Int) < (↑n : Int)) == true) = true) ∧ decide ((↑k : Int) < (↑n : Int)) = true) ∧ decide (N ≤ 20000) = true) ∧ 0 ≤ (↑k : Int) ∧ (↑k : Int) < (↑n : Int)) ∧ List.take 11 (List.drop (0 + Int.toNat (↑k : Int) * 11) ds) = rqD u1 d1 n1) ∧ True ∧ [Value.agg (Array.mk [Value.int .i8 u1.k, Value.string u1.pa, Value.chan (some 10), Value.chan (some 12), Value.int .i32 u1.ver, Value.bool u1.eph, Value.bool u1.sq, Value.int .i64 u1.ses, Value.int .i32 u1.tmo, Value.chan (some 14), Value.chan (some 16)]), Value.int .i64 N] = [Value.agg (Array.mk [Value.int .i8 u1.k, Value.string u1.pa, Value.chan (some 10), Value.chan (some 12), Value.int .i32 u1.ver, Value.bool u1.eph, Value.bool u1.sq, Value.int .i64 u1.ses, Value.int .i32 u1.tmo, Value.chan (some 14), Value.chan (some 16)]), Value.int .i64 N] ∧ (Wd.len (Wd.v (bv u1.bs) (List.length u1.bs)) = Wd.len (Wd.v (bv u1.bs) (List.length u1.bs)) ∧ bv u1.bs = bv u1.bs) ∧ (Wd.len (Wd.v (av u1.es) (List.length u1.es)) = Wd.len (Wd.v (av u1.es) (List.length u1.es)) ∧ av u1.es = av u1.es) ∧ (Wd.len (Wd.v (iv u1.who) (List.length u1.who)) = Wd.len (Wd.v (iv u1.who) (List.length u1.who)) ∧ iv u1.who = iv u1.who) ∧ (Wd.len (Wd.d d1 n1) = Wd.len (Wd.d d1 n1) ∧ d1 = d1) ∧ True)) (by kernel_rfl) ⟨⟨⟨⟨⟨⟨⟨trivial, gd h0 rfl⟩, gd h0 rfl⟩, h0⟩, h1⟩, h2⟩, h3⟩, ⟨trivial, ⟨rfl, ⟨⟨rfl, rfl⟩, ⟨⟨rfl, rfl⟩, ⟨⟨rfl, rfl⟩, ⟨⟨rfl, rfl⟩, trivial⟩⟩⟩⟩⟩⟩⟩
theorem e20b_came (u : Hd) (ds : List Deep) (n : Nat) (k : Nat) (N : Int) (h0 : decide ((↑k : Int) < (↑n : Int)) = true) (h1 : decide (N ≤ 20000) = false) :
    Ran (codeO Tryz.prog E1 (sm0) noRun 100 20 [0, 0, 1, 0, 1, 1] (codeAt Tryz.f20 [0, 0, 1, 0, 1, 1]) (mkFr 39 (t20 N k)) (mkHp 9 (oRq u ds n ++ [(8, boxRq u)])) [.skip 6, .b true, .skip 1, .b true, .skip 1, .b true, .b false] True) (Exit.exit 0) 39 [(1, Value.int .i64 N), (2, Value.pointer (some ⟨8, 0, none⟩)), (5, Value.int .i64 (↑k : Int))] [(0, AObj.rov (bv u.bs)), (1, AObj.word (List.length u.bs) 0), (2, AObj.rov (av u.es)), (3, AObj.word (List.length u.es) 2), (4, AObj.rov (iv u.who)), (5, AObj.word (List.length u.who) 4), (6, AObj.ro ds), (7, AObj.word n 6), (8, AObj.cells [Value.int .i8 u.k, Value.string u.pa, Value.chan (some 1), Value.chan (some 3), Value.int .i32 u.ver, Value.bool u.eph, Value.bool u.sq, Value.int .i64 u.ses, Value.int .i32 u.tmo, Value.chan (some 5), Value.chan (some 7)] 0)] 9 :=
  cameF_of (O := ((((True ∧ (decide ((↑k : Int) < (↑n : Int)) == true) = true) ∧ (decide ((↑k : Int) < (↑n : Int)) == true) = true) ∧ decide ((↑k : Int) < (↑n : Int)) = true) ∧ decide (N ≤ 20000) = false)) (by kernel_rfl) ⟨⟨⟨⟨trivial, gd h0 rfl⟩, gd h0 rfl⟩, h0⟩, h1⟩
theorem e20c_came (u : Hd) (ds : List Deep) (n : Nat) (k : Nat) (N : Int) (h0 : decide ((↑k : Int) < (↑n : Int)) = false) :
    Ran (codeO Tryz.prog E1 (sm0) noRun 100 20 [0, 0, 1, 0, 1, 1] (codeAt Tryz.f20 [0, 0, 1, 0, 1, 1]) (mkFr 39 (t20 N k)) (mkHp 9 (oRq u ds n ++ [(8, boxRq u)])) [.skip 6, .b false, .b false, .b false] True) (Exit.exit 0) 39 [(1, Value.int .i64 N), (2, Value.pointer (some ⟨8, 0, none⟩)), (5, Value.int .i64 (↑k : Int))] [(0, AObj.rov (bv u.bs)), (1, AObj.word (List.length u.bs) 0), (2, AObj.rov (av u.es)), (3, AObj.word (List.length u.es) 2), (4, AObj.rov (iv u.who)), (5, AObj.word (List.length u.who) 4), (6, AObj.ro ds), (7, AObj.word n 6), (8, AObj.cells [Value.int .i8 u.k, Value.string u.pa, Value.chan (some 1), Value.chan (some 3), Value.int .i32 u.ver, Value.bool u.eph, Value.bool u.sq, Value.int .i64 u.ses, Value.int .i32 u.tmo, Value.chan (some 5), Value.chan (some 7)] 0)] 9 :=
  cameF_of (O := (((True ∧ (decide ((↑k : Int) < (↑n : Int)) == true) = false) ∧ (decide ((↑k : Int) < (↑n : Int)) == true) = false) ∧ decide ((↑k : Int) < (↑n : Int)) = false)) (by kernel_rfl) ⟨⟨⟨trivial, gd h0 rfl⟩, gd h0 rfl⟩, h0⟩
def N20 (N : Nat) (h : Hd) : Int := IntKind.wrap .i64 (IntKind.wrap .i64 (IntKind.wrap .i64 (IntKind.wrap .i64 ((N : Int) + 1) + (h.bs.length : Int)) + (h.es.length : Int)) + (h.who.length : Int))
noncomputable def q20 (u : Hd) (ds : List Deep) (n N : Nat) (V : Int) : Sm := withL sm0 20 [1, 0, 1, 1] (piece 39 (t20 (N20 N u) 0) (oRq u ds n ++ [(8, boxRq u)]) 9 .normal (mkFr 39 [(1, .int .i64 V)]) (mkHp 9 (oRq u ds n ++ [(8, boxRq u)])))
theorem c20_came (u : Hd) (ds : List Deep) (n : Nat) (N : Nat) (V : Int)  :
    RanC (runO Tryz.prog E1 (q20 u ds n N V) noRun 100 20 [Value.agg (Array.mk (rqVals u (Value.chan (some 1)) (Value.chan (some 3)) (Value.chan (some 5)) (Value.chan (some 7)))), Value.int .i64 (↑N : Int)] (mkHp 8 (wordsOs (wsRq u ds n) 0 fun n => n)) [] True) (.returned (Value.int .i64 V)) [(0, AObj.rov (bv u.bs)), (1, AObj.word (List.length u.bs) 0), (2, AObj.rov (av u.es)), (3, AObj.word (List.length u.es) 2), (4, AObj.rov (iv u.who)), (5, AObj.word (List.length u.who) 4), (6, AObj.ro ds), (7, AObj.word n 6), (8, AObj.cells [Value.int .i8 u.k, Value.string u.pa, Value.chan (some 1), Value.chan (some 3), Value.int .i32 u.ver, Value.bool u.eph, Value.bool u.sq, Value.int .i64 u.ses, Value.int .i32 u.tmo, Value.chan (some 5), Value.chan (some 7)] 0)] 9 :=
  cameCF_of (O := (True ∧ SelfP 39 (t20 (N20 N u) 0) (oRq u ds n ++ [(8, boxRq u)]) 9)) (by kernel_rfl) ⟨trivial, selfP_true _ _ _ _⟩
mutual
def Rq.pV : Rq → Nat → Nat
  | .mk h ops, N => rqsV ops (N + 1 + h.bs.length + h.es.length + h.who.length)
def rqsV : List Rq → Nat → Nat
  | [], N => N
  | r :: rs, N => if N ≤ 20000 then rqsV rs (r.pV N) else N
end
theorem rqsV_drop {l : List Rq} {k N : Nat} (h : k < l.length) (hN : N ≤ 20000) : rqsV (l.drop k) N = rqsV (l.drop (k + 1)) (l[k].pV N) := by
  rw [List.drop_eq_getElem_cons h, rqsV, if_pos hN]
theorem rqsV_stop {l : List Rq} {N : Nat} (h : l = [] ∨ ¬ N ≤ 20000) : rqsV l N = N := by
  rcases h with rfl | h
  · rw [rqsV]
  · cases l with
    | nil => rw [rqsV]
    | cons a r => rw [rqsV, if_neg h]
theorem rq_bd (u : Hd) (ds : List Deep) (n : Nat) : ∀ p ∈ oRq u ds n ++ [(8, boxRq u)], p.1 < 9 ∧ BdO 9 p.2 := by
  intro p hp
  simp only [oRq, List.mem_cons, List.mem_append, List.not_mem_nil, or_false] at hp
  rcases hp with (rfl | rfl | rfl | rfl | rfl | rfl | rfl | rfl) | rfl <;> simp [BdO, boxRq, rqVals]
def Rq.h : Rq → Hd
  | .mk h _ => h
def Rq.ops : Rq → List Rq
  | .mk _ ops => ops
theorem Rq.d_eq (r : Rq) : r.d = rqD r.h (rqsD r.ops) r.ops.length := by cases r; rw [Rq.d]; rfl
theorem con20 : ∀ (m : Nat) (r : Rq) (N : Nat), r.parts ≤ m → r.big → N ≤ 20000 → ConWG GT Tryz.prog 20 (kn20 r.h (rqsD r.ops) r.ops.length N (r.pV N))
  | 0, r, N, hm, _, _ => by cases r; rw [Rq.parts] at hm; omega
  | m + 1, .mk u ops, N, hm, hb, hN => by
    rw [Rq.parts] at hm
    rw [Rq.big] at hb
    obtain ⟨hu, hol, hops⟩ := hb
    have b1 := hu.bs
    have b2 := hu.es
    have b3 := hu.who
    have hN1 : N20 N u = ((N + 1 + u.bs.length + u.es.length + u.who.length : Nat) : Int) := by
      unfold N20
      rw [i64_small (n := (N : Int) + 1) (by omega) (by omega), i64_small (n := (N : Int) + 1 + _) (by omega) (by omega), i64_small (n := (N : Int) + 1 + _ + _) (by omega) (by omega), i64_small (by omega) (by omega)]
      omega
    have hV : (Rq.mk u ops).pV N = rqsV ops (N + 1 + u.bs.length + u.es.length + u.who.length) := by rw [Rq.pV]
    have hF : ∀ ts, (∀ p ∈ ts, Bd 9 p.2) → smallN ts = true → Fits 9 ts (oRq u (rqsD ops) ops.length ++ [(8, boxRq u)]) 9 := fun ts h1 h2 => ⟨h2, rfl, h1, rq_bd _ _ _, by decide, by decide⟩
    show ConWG GT Tryz.prog 20 (kn20 u (rqsD ops) ops.length N _)
    rw [hV]
    refine conW_read hP1 (s := q20 u (rqsD ops) ops.length N (rqsV ops (N + 1 + u.bs.length + u.es.length + u.who.length) : Nat)) (fun pr w0 hG => withL_ok (sm0_ok pr w0) (fn := Tryz.f20) (c := .block 0 (.loop (codeAt Tryz.f20 [0, 0, 1, 0, 1, 1]))) (by kernel_rfl) (by kernel_rfl) (block_end (hF _ (by simp [t20]) rfl) ?_)) (c20_came u (rqsD ops) ops.length N _) (by simp [wsRq, limit]) ⟨rfl, rfl, by simp, ?_, by decide, by simp [wsRq]⟩ (by simp [rqVals, wsRq]) (pure_int _ _) (by intro ι ι' f g h; simp [rqVals, h 0 (by simp [wsRq]), h 1 (by simp [wsRq]), h 2 (by simp [wsRq]), h 3 (by simp [wsRq])]) (by intro σ; simp [upV])
    · have hh : Here E1 20 [0, 0, 1, 0, 1, 1] (codeAt Tryz.f20 [0, 0, 1, 0, 1, 1]) := codeAt_here (fn := Tryz.f20) (by kernel_rfl) (by kernel_rfl)
      rw [hN1]
      refine rounds_tri (T := { p : Nat × Nat // p.1 ≤ ops.length ∧ rqsV (ops.drop p.1) p.2 = rqsV ops (N + 1 + u.bs.length + u.es.length + u.who.length) }) ⟨39, fun t => t20 t.1.2 t.1.1, fun _ => oRq u (rqsD ops) ops.length ++ [(8, boxRq u)], fun _ => 9, fun t => ops.length - t.1.1⟩ ?_ ⟨(0, N + 1 + u.bs.length + u.es.length + u.who.length), Nat.zero_le _, rfl⟩
      rintro ⟨⟨k, M⟩, hk, hinv⟩
      simp only at hk hinv
      by_cases hlt : k < ops.length
      · by_cases hMl : M ≤ 20000
        · have hp := parts_mem (List.getElem_mem hlt)
          have hc := e20a_came u ops[k].h (rqsD ops) (rqsD ops[k].ops) ops.length ops[k].ops.length k M (ops[k].pV M) (by simp; omega) (by simp; omega) (by omega) (by rw [rqsD_get hlt, Rq.d_eq])
          rw [i64_succ (by omega)] at hc
          refine on_keep hP1 (withQ_ok (sm0_ok pr w0) (fnP_ok gt_stands hG fun args μ X c p h hp => ?_)) hh hc ⟨(k + 1, ops[k].pV M), hlt, by simp only; rw [← hinv, rqsV_drop hlt hMl]⟩ (by simp [t20]) (by simp [oRq, boxRq, rqVals]) (by simp only; omega) (hF _ (by simp [t20]) rfl)
          unfold g20 at h
          split at h
          · cases h
            exact ⟨con20 m ops[k] M (by omega) (big_mem (List.getElem_mem hlt) hops) hMl, fun _ => rfl, fun _ => rfl, pure_int _ _⟩
          · cases h
        · have hc := cut_came (e20b_came u (rqsD ops) ops.length k M (by simp; omega) (by simp; omega)) (ts' := [(1, .int .i64 M)]) (by simp)
          refine out_came hP1 (sm0_ok pr w0) hh hc (by simp) (by simp) (hF _ (by simp) rfl) ⟨rfl, ?_, rfl⟩
          rw [← hinv, rqsV_stop (.inr hMl)]
      · have hc := cut_came (e20c_came u (rqsD ops) ops.length k M (by simp; omega)) (ts' := [(1, .int .i64 M)]) (by simp)
        refine out_came hP1 (sm0_ok pr w0) hh hc (by simp) (by simp) (hF _ (by simp) rfl) ⟨rfl, ?_, rfl⟩
        rw [← hinv, rqsV_stop (.inl (List.drop_eq_nil_of_le (by omega)))]
    · exact rq_bd _ _ _
end Go.Abs
end
section
namespace Go.Abs
open Go.Proofs
set_option maxRecDepth 100000
def kn12 (h : Hd) (ds : List Deep) (n : Nat) (V : Int) : ConW := ⟨fun X => [.agg ⟨rqVals h (X 0) (X 1) (X 2) (X 3)⟩], wsRq h ds n, fun _ => .int .i64 V, fun _ => []⟩
def kn11 (h : Hd) (ds : List Deep) (n : Nat) (b : Bool) : ConW := ⟨fun X => [.agg ⟨rqVals h (X 0) (X 1) (X 2) (X 3)⟩], wsRq h ds n, fun _ => .bool b, fun _ => []⟩
def g12 (c : ConW) : List Value → Hp → Option (List Value × ConW × Prop) := fun args _ => match args with
  | [.agg ⟨[_, _, d, a, _, _, _, _, _, w, o]⟩] => some ([d, a, w, o], c, True)
  | _ => none
def s12 (h : Hd) (ds : List Deep) (n : Nat) (V : Int) : Sm := withQ sm0 12 (fnP (g12 (kn12 h ds n V)))
def s4 (h : Hd) (ds : List Deep) (n : Nat) (V : Int) (b : Bool) : Sm := withQ (s12 h ds n V) 11 (fnP (g12 (kn11 h ds n b)))
def tL (N : Int) (k : Nat) : List (Nat × Value) := [(0, .chan (some 1)), (3, .int .i64 N), (4, .int .i64 k)]
def oL (n : Nat) (ds : List Deep) : List (Nat × AObj) := [(0, .ro ds), (1, .word n 0)]
theorem c12_came (u : Hd) (ds : List Deep) (n : Nat) (V : Int)  :
    RanC (runO Tryz.prog E1 (s20 u ds n 0 V) noRun 100 12 [Value.agg (Array.mk (rqVals u (Value.chan (some 1)) (Value.chan (some 3)) (Value.chan (some 5)) (Value.chan (some 7))))] (mkHp 8 (wordsOs (wsRq u ds n) 0 fun n => n)) [] True) (.returned (Value.int .i64 V)) [(0, AObj.rov (bv u.bs)), (1, AObj.word (List.length u.bs) 0), (2, AObj.rov (av u.es)), (3, AObj.word (List.length u.es) 2), (4, AObj.rov (iv u.who)), (5, AObj.word (List.length u.who) 4), (6, AObj.ro ds), (7, AObj.word n 6), (8, AObj.cells [Value.int .i8 u.k, Value.string u.pa, Value.chan (some 1), Value.chan (some 3), Value.int .i32 u.ver, Value.bool u.eph, Value.bool u.sq, Value.int .i64 u.ses, Value.int .i32 u.tmo, Value.chan (some 5), Value.chan (some 7)] 0)] 9 :=
  cameCF_of (O := (True ∧ True ∧ [Value.agg (Array.mk [Value.int .i8 u.k, Value.string u.pa, Value.chan (some 1), Value.chan (some 3), Value.int .i32 u.ver, Value.bool u.eph, Value.bool u.sq, Value.int .i64 u.ses, Value.int .i32 u.tmo, Value.chan (some 5), Value.chan (some 7)]), Value.int .i64 0] = [Value.agg (Array.mk [Value.int .i8 u.k, Value.string u.pa, Value.chan (some 1), Value.chan (some 3), Value.int .i32 u.ver, Value.bool u.eph, Value.bool u.sq, Value.int .i64 u.ses, Value.int .i32 u.tmo, Value.chan (some 5), Value.chan (some 7)]), Value.int .i64 0] ∧ (Wd.len (Wd.v (bv u.bs) (List.length u.bs)) = Wd.len (Wd.v (bv u.bs) (List.length u.bs)) ∧ bv u.bs = bv u.bs) ∧ (Wd.len (Wd.v (av u.es) (List.length u.es)) = Wd.len (Wd.v (av u.es) (List.length u.es)) ∧ av u.es = av u.es) ∧ (Wd.len (Wd.v (iv u.who) (List.length u.who)) = Wd.len (Wd.v (iv u.who) (List.length u.who)) ∧ iv u.who = iv u.who) ∧ (Wd.len (Wd.d ds n) = Wd.len (Wd.d ds n) ∧ ds = ds) ∧ True)) (by kernel_rfl) ⟨trivial, ⟨trivial, ⟨rfl, ⟨⟨rfl, rfl⟩, ⟨⟨rfl, rfl⟩, ⟨⟨rfl, rfl⟩, ⟨⟨rfl, rfl⟩, trivial⟩⟩⟩⟩⟩⟩⟩
theorem c11_came (u : Hd) (ds : List Deep) (n : Nat) (V : Int)  :
    RanC (runO Tryz.prog E1 (s12 u ds n V) noRun 100 11 [Value.agg (Array.mk (rqVals u (Value.chan (some 1)) (Value.chan (some 3)) (Value.chan (some 5)) (Value.chan (some 7))))] (mkHp 8 (wordsOs (wsRq u ds n) 0 fun n => n)) [] True) (.returned (Value.bool (decide (V > 20000)))) [(0, AObj.rov (bv u.bs)), (1, AObj.word (List.length u.bs) 0), (2, AObj.rov (av u.es)), (3, AObj.word (List.length u.es) 2), (4, AObj.rov (iv u.who)), (5, AObj.word (List.length u.who) 4), (6, AObj.ro ds), (7, AObj.word n 6), (8, AObj.cells [Value.int .i8 u.k, Value.string u.pa, Value.chan (some 1), Value.chan (some 3), Value.int .i32 u.ver, Value.bool u.eph, Value.bool u.sq, Value.int .i64 u.ses, Value.int .i32 u.tmo, Value.chan (some 5), Value.chan (some 7)] 0)] 9 :=
  cameCF_of (O := (True ∧ True ∧ [Value.agg (Array.mk [Value.int .i8 u.k, Value.string u.pa, Value.chan (some 1), Value.chan (some 3), Value.int .i32 u.ver, Value.bool u.eph, Value.bool u.sq, Value.int .i64 u.ses, Value.int .i32 u.tmo, Value.chan (some 5), Value.chan (some 7)])] = [Value.agg (Array.mk [Value.int .i8 u.k, Value.string u.pa, Value.chan (some 1), Value.chan (some 3), Value.int .i32 u.ver, Value.bool u.eph, Value.bool u.sq, Value.int .i64 u.ses, Value.int .i32 u.tmo, Value.chan (some 5), Value.chan (some 7)])] ∧ (Wd.len (Wd.v (bv u.bs) (List.length u.bs)) = Wd.len (Wd.v (bv u.bs) (List.length u.bs)) ∧ bv u.bs = bv u.bs) ∧ (Wd.len (Wd.v (av u.es) (List.length u.es)) = Wd.len (Wd.v (av u.es) (List.length u.es)) ∧ av u.es = av u.es) ∧ (Wd.len (Wd.v (iv u.who) (List.length u.who)) = Wd.len (Wd.v (iv u.who) (List.length u.who)) ∧ iv u.who = iv u.who) ∧ (Wd.len (Wd.d ds n) = Wd.len (Wd.d ds n) ∧ ds = ds) ∧ True)) (by kernel_rfl) ⟨trivial, ⟨trivial, ⟨rfl, ⟨⟨rfl, rfl⟩, ⟨⟨rfl, rfl⟩, ⟨⟨rfl, rfl⟩, ⟨⟨rfl, rfl⟩, trivial⟩⟩⟩⟩⟩⟩⟩
theorem eLa_came (u : Hd) (ds : List Deep) (d1 : List Deep) (n : Nat) (n1 : Nat) (k : Nat) (N : Int) (V : Int) (h0 : decide ((↑k : Int) < (↑n : Int)) = true) (h1 : decide (N ≤ 1000000) = true) (h2 : 0 ≤ (↑k : Int) ∧ (↑k : Int) < (↑n : Int)) (h3 : List.take 11 (List.drop (0 + Int.toNat (↑k : Int) * 16 + 5) ds) = rqD u d1 n1) :
    Ran (codeO Tryz.prog E1 (s4 u d1 n1 V false) noRun 100 4 [0, 0, 1, 0, 1, 1] (codeAt Tryz.f4 [0, 0, 1, 0, 1, 1]) (mkFr 32 (tL N k)) (mkHp 2 (oL n ds)) [.skip 5, .b true, .skip 1, .b true, .skip 1, .b true, .b true, .skip 2, .sym, .skip 1, .dp (rqD u d1 n1), .skip 6, .sym, .skip 1, .dp (rqD u d1 n1)] True) (Exit.normal) 32 [(0, Value.chan (some 1)), (3, Value.int .i64 (IntKind.wrap .i64 (IntKind.wrap .i64 (N + 1) + V))), (4, Value.int .i64 (IntKind.wrap .i64 ((↑k : Int) + 1)))] [(0, AObj.ro ds), (1, AObj.word n 0), (2, AObj.rov (bv u.bs)), (3, AObj.word (List.length u.bs) 2), (4, AObj.rov (av u.es)), (5, AObj.word (List.length u.es) 4), (6, AObj.rov (iv u.who)), (7, AObj.word (List.length u.who) 6), (8, AObj.ro d1), (9, AObj.word n1 8), (10, AObj.rov (bv u.bs)), (11, AObj.word (List.length u.bs) 10), (12, AObj.rov (av u.es)), (13, AObj.word (List.length u.es) 12), (14, AObj.rov (iv u.who)), (15, AObj.word (List.length u.who) 14), (16, AObj.ro d1), (17, AObj.word n1 16)] 18 :=
  cameF_of (O := ((((((((((True ∧ (decide ((↑k : Int) < (↑n : Int)) == true) = true) ∧ (decide ((↑k : Int) < (↑n : Int)) == true) = true) ∧ decide ((↑k : Int) < (↑n : Int)) = true) ∧ decide (N ≤ 1000000) = true) ∧ 0 ≤ (↑k : Int) ∧ (↑k : Int) < (↑n : Int)) ∧ List.take 11 (List.drop (0 + Int.toNat (↑k : Int) * 16 + 5) ds) = rqD u d1 n1) ∧ True ∧ [Value.agg (Array.mk [Value.int .i8 u.k, Value.string u.pa, Value.chan (some 3), Value.chan (some 5), Value.int .i32 u.ver, Value.bool u.eph, Value.bool u.sq, Value.int .i64 u.ses, Value.int .i32 u.tmo, Value.chan (some 7), Value.chan (some 9)])] = [Value.agg (Array.mk [Value.int .i8 u.k, Value.string u.pa, Value.chan (some 3), Value.chan (some 5), Value.int .i32 u.ver, Value.bool u.eph, Value.bool u.sq, Value.int .i64 u.ses, Value.int .i32 u.tmo, Value.chan (some 7), Value.chan (some 9)])] ∧ (Wd.len (Wd.v (bv u.bs) (List.length u.bs)) = Wd.len (Wd.v (bv u.bs) (List.length u.bs)) ∧ bv u.bs = bv u.bs) ∧ (Wd.len (Wd.v (av u.es) (List.length u.es)) = Wd.len (Wd.v (av u.es) (List.length u.es)) ∧ av u.es = av u.es) ∧ (Wd.len (Wd.v (iv u.who) (List.length u.who)) = Wd.len (Wd.v (iv u.who) (List.length u.who)) ∧ iv u.who = iv u.who) ∧ (Wd.len (Wd.d d1 n1) = Wd.len (Wd.d d1 n1) ∧ d1 = d1) ∧ True) ∧ 0 ≤ (↑k : Int) ∧ (↑k : Int) < (↑n : Int)) ∧ List.take 11 (List.drop (0 + Int.toNat (↑k : Int) * 16 + 5) ds) = rqD u d1 n1) ∧ True ∧ [Value.agg (Array.mk [Value.int .i8 u.k, Value.string u.pa, Value.chan (some 11), Value.chan (some 13), Value.int .i32 u.ver, Value.bool u.eph, Value.bool u.sq, Value.int .i64 u.ses, Value.int .i32 u.tmo, Value.chan (some 15), Value.chan (some 17)])] = [Value.agg (Array.mk [Value.int .i8 u.k, Value.string u.pa, Value.chan (some 11), Value.chan (some 13), Value.int .i32 u.ver, Value.bool u.eph, Value.bool u.sq, Value.int .i64 u.ses, Value.int .i32 u.tmo, Value.chan (some 15), Value.chan (some 17)])] ∧ (Wd.len (Wd.v (bv u.bs) (List.length u.bs)) = Wd.len (Wd.v (bv u.bs) (List.length u.bs)) ∧ bv u.bs = bv u.bs) ∧ (Wd.len (Wd.v (av u.es) (List.length u.es)) = Wd.len (Wd.v (av u.es) (List.length u.es)) ∧ av u.es = av u.es) ∧ (Wd.len (Wd.v (iv u.who) (List.length u.who)) = Wd.len (Wd.v (iv u.who) (List.length u.who)) ∧ iv u.who = iv u.who) ∧ (Wd.len (Wd.d d1 n1) = Wd.len (Wd.d d1 n1) ∧ d1 = d1) ∧ True)) (by kernel_rfl) ⟨⟨⟨⟨⟨⟨⟨⟨⟨⟨trivial, gd h0 rfl⟩, gd h0 rfl⟩, h0⟩, h1⟩, h2⟩, h3⟩, ⟨trivial, ⟨rfl, ⟨⟨rfl, rfl⟩, ⟨⟨rfl, rfl⟩, ⟨⟨rfl, rfl⟩, ⟨⟨rfl, rfl⟩, trivial⟩⟩⟩⟩⟩⟩⟩, h2⟩, h3⟩, ⟨trivial, ⟨rfl, ⟨⟨rfl, rfl⟩, ⟨⟨rfl, rfl⟩, ⟨⟨rfl, rfl⟩, ⟨⟨rfl, rfl⟩, trivial⟩⟩⟩⟩⟩⟩⟩
theorem eLr_came (u : Hd) (ds : List Deep) (d1 : List Deep) (n : Nat) (n1 : Nat) (k : Nat) (N : Int) (V : Int) (h0 : decide ((↑k : Int) < (↑n : Int)) = true) (h1 : decide (N ≤ 1000000) = true) (h2 : 0 ≤ (↑k : Int) ∧ (↑k : Int) < (↑n : Int)) (h3 : List.take 11 (List.drop (0 + Int.toNat (↑k : Int) * 16 + 5) ds) = rqD u d1 n1) :
    Ran (codeO Tryz.prog E1 (s4 u d1 n1 V true) noRun 100 4 [0, 0, 1, 0, 1, 1] (codeAt Tryz.f4 [0, 0, 1, 0, 1, 1]) (mkFr 32 (tL N k)) (mkHp 2 (oL n ds)) [.skip 5, .b true, .skip 1, .b true, .skip 1, .b true, .b true, .skip 2, .sym, .skip 1, .dp (rqD u d1 n1)] True) (Exit.ret) 32 [(2, Value.bool true)] [(0, AObj.ro ds), (1, AObj.word n 0), (2, AObj.rov (bv u.bs)), (3, AObj.word (List.length u.bs) 2), (4, AObj.rov (av u.es)), (5, AObj.word (List.length u.es) 4), (6, AObj.rov (iv u.who)), (7, AObj.word (List.length u.who) 6), (8, AObj.ro d1), (9, AObj.word n1 8)] 10 :=
  cameF_of (O := (((((((True ∧ (decide ((↑k : Int) < (↑n : Int)) == true) = true) ∧ (decide ((↑k : Int) < (↑n : Int)) == true) = true) ∧ decide ((↑k : Int) < (↑n : Int)) = true) ∧ decide (N ≤ 1000000) = true) ∧ 0 ≤ (↑k : Int) ∧ (↑k : Int) < (↑n : Int)) ∧ List.take 11 (List.drop (0 + Int.toNat (↑k : Int) * 16 + 5) ds) = rqD u d1 n1) ∧ True ∧ [Value.agg (Array.mk [Value.int .i8 u.k, Value.string u.pa, Value.chan (some 3), Value.chan (some 5), Value.int .i32 u.ver, Value.bool u.eph, Value.bool u.sq, Value.int .i64 u.ses, Value.int .i32 u.tmo, Value.chan (some 7), Value.chan (some 9)])] = [Value.agg (Array.mk [Value.int .i8 u.k, Value.string u.pa, Value.chan (some 3), Value.chan (some 5), Value.int .i32 u.ver, Value.bool u.eph, Value.bool u.sq, Value.int .i64 u.ses, Value.int .i32 u.tmo, Value.chan (some 7), Value.chan (some 9)])] ∧ (Wd.len (Wd.v (bv u.bs) (List.length u.bs)) = Wd.len (Wd.v (bv u.bs) (List.length u.bs)) ∧ bv u.bs = bv u.bs) ∧ (Wd.len (Wd.v (av u.es) (List.length u.es)) = Wd.len (Wd.v (av u.es) (List.length u.es)) ∧ av u.es = av u.es) ∧ (Wd.len (Wd.v (iv u.who) (List.length u.who)) = Wd.len (Wd.v (iv u.who) (List.length u.who)) ∧ iv u.who = iv u.who) ∧ (Wd.len (Wd.d d1 n1) = Wd.len (Wd.d d1 n1) ∧ d1 = d1) ∧ True)) (by kernel_rfl) ⟨⟨⟨⟨⟨⟨⟨trivial, gd h0 rfl⟩, gd h0 rfl⟩, h0⟩, h1⟩, h2⟩, h3⟩, ⟨trivial, ⟨rfl, ⟨⟨rfl, rfl⟩, ⟨⟨rfl, rfl⟩, ⟨⟨rfl, rfl⟩, ⟨⟨rfl, rfl⟩, trivial⟩⟩⟩⟩⟩⟩⟩
theorem eLb_came (ds : List Deep) (n : Nat) (k : Nat) (N : Int) (h0 : decide ((↑k : Int) < (↑n : Int)) = true) (h1 : decide (N ≤ 1000000) = false) :
    Ran (codeO Tryz.prog E1 (sm0) noRun 100 4 [0, 0, 1, 0, 1, 1] (codeAt Tryz.f4 [0, 0, 1, 0, 1, 1]) (mkFr 32 (tL N k)) (mkHp 2 (oL n ds)) [.skip 5, .b true, .skip 1, .b true, .skip 1, .b true, .b false] True) (Exit.exit 0) 32 [(3, Value.int .i64 N)] [(0, AObj.ro ds), (1, AObj.word n 0)] 2 :=
  cameF_of (O := ((((True ∧ (decide ((↑k : Int) < (↑n : Int)) == true) = true) ∧ (decide ((↑k : Int) < (↑n : Int)) == true) = true) ∧ decide ((↑k : Int) < (↑n : Int)) = true) ∧ decide (N ≤ 1000000) = false)) (by kernel_rfl) ⟨⟨⟨⟨trivial, gd h0 rfl⟩, gd h0 rfl⟩, h0⟩, h1⟩
theorem eLc_came (ds : List Deep) (n : Nat) (k : Nat) (N : Int) (h0 : decide ((↑k : Int) < (↑n : Int)) = false) :
    Ran (codeO Tryz.prog E1 (sm0) noRun 100 4 [0, 0, 1, 0, 1, 1] (codeAt Tryz.f4 [0, 0, 1, 0, 1, 1]) (mkFr 32 (tL N k)) (mkHp 2 (oL n ds)) [.skip 5, .b false, .b false, .b false] True) (Exit.exit 0) 32 [(3, Value.int .i64 N)] [(0, AObj.ro ds), (1, AObj.word n 0)] 2 :=
  cameF_of (O := (((True ∧ (decide ((↑k : Int) < (↑n : Int)) == true) = false) ∧ (decide ((↑k : Int) < (↑n : Int)) == true) = false) ∧ decide ((↑k : Int) < (↑n : Int)) = false)) (by kernel_rfl) ⟨⟨⟨trivial, gd h0 rfl⟩, gd h0 rfl⟩, h0⟩
noncomputable def qLn (n : Nat) (ds : List Deep) (N : Int) : Sm := withL sm0 4 [1, 0, 1, 1] (piece 32 (tL 0 0) (oL n ds) 2 .normal (mkFr 32 [(3, .int .i64 N)]) (mkHp 2 (oL n ds)))
noncomputable def qLr (n : Nat) (ds : List Deep) : Sm := withL sm0 4 [1, 0, 1, 1] (piece 32 (tL 0 0) (oL n ds) 2 .ret (mkFr 32 [(2, .bool true)]) (mkHp 2 (oL n ds)))
theorem cLn_came (n : Nat) (ds : List Deep) (N : Int)  :
    RanC (runO Tryz.prog E1 (qLn n ds N) noRun 100 4 [Value.chan (some 1)] (mkHp 2 (wordsOs [Wd.d ds n] 0 fun n => n)) [] True) (.returned (Value.bool (decide (N > 1000000)))) [(0, AObj.ro ds), (1, AObj.word n 0)] 2 :=
  cameCF_of (O := (True ∧ SelfP 32 (tL 0 0) (oL n ds) 2)) (by kernel_rfl) ⟨trivial, selfP_true _ _ _ _⟩
theorem cLr_came (n : Nat) (ds : List Deep)  :
    RanC (runO Tryz.prog E1 (qLr n ds) noRun 100 4 [Value.chan (some 1)] (mkHp 2 (wordsOs [Wd.d ds n] 0 fun n => n)) [] True) (.returned (Value.bool true)) [(0, AObj.ro ds), (1, AObj.word n 0)] 2 :=
  cameCF_of (O := (True ∧ SelfP 32 (tL 0 0) (oL n ds) 2)) (by kernel_rfl) ⟨trivial, selfP_true _ _ _ _⟩
theorem pV_le (B : Nat) : ∀ (m : Nat) (r : Rq) (N : Nat), r.parts ≤ m → r.big → N ≤ B → 20000 ≤ B → r.pV N ≤ B + 4503599627370496
  | 0, r, N, hm, _, _, _ => by cases r; rw [Rq.parts] at hm; omega
  | m + 1, .mk u ops, N, hm, hb, hN, hB => by
    rw [Rq.parts] at hm
    rw [Rq.big] at hb
    obtain ⟨hu, hol, hops⟩ := hb
    have b1 := hu.bs
    have b2 := hu.es
    have b3 := hu.who
    rw [Rq.pV]
    have key : ∀ (l : List Rq) (N : Nat), (∀ r ∈ l, r.parts ≤ m ∧ r.big) → N ≤ B + 4503599627370496 → rqsV l N ≤ B + 4503599627370496 := by
      intro l
      induction l with
      | nil => intro N _ h; rw [rqsV]; exact h
      | cons a l ih =>
        intro N hl h
        rw [rqsV]
        split
        · rename_i h2
          have ha := hl a (List.mem_cons_self ..)
          exact ih _ (fun r hr => hl r (List.mem_cons_of_mem _ hr)) (pV_le B m a N ha.1 ha.2 (by omega) hB)
        · exact h
    exact key ops _ (fun r hr => ⟨by have := parts_mem hr; omega, big_mem hr hops⟩) (by omega)
theorem pV_bound {r : Rq} (h : r.big) : r.pV 0 ≤ 4503599627390496 := pV_le 20000 r.parts r 0 (Nat.le_refl _) h (by omega) (Nat.le_refl _)
theorem rq_ap {h : Hd} (ι ι' : Ren) (f g : Nat → Value) (hh : ∀ i, i < 4 → conc ι (f i) = conc ι' (g i)) : ([Value.agg ⟨rqVals h (f 0) (f 1) (f 2) (f 3)⟩]).map (conc ι) = ([Value.agg ⟨rqVals h (g 0) (g 1) (g 2) (g 3)⟩]).map (conc ι') := by
  simp [rqVals, hh 0 (by decide), hh 1 (by decide), hh 2 (by decide), hh 3 (by decide)]
theorem boxed_bd (u : Hd) (ds : List Deep) (n : Nat) : ∀ p ∈ [(0, AObj.rov (bv u.bs)), (1, .word u.bs.length 0), (2, .rov (av u.es)), (3, .word u.es.length 2), (4, .rov (iv u.who)), (5, .word u.who.length 4), (6, .ro ds), (7, .word n 6), (8, boxRq u)], p.1 < 9 ∧ BdO 9 p.2 := rq_bd u ds n
theorem con12 {r : Rq} (hb : r.big) : ConWG GT Tryz.prog 12 (kn12 r.h (rqsD r.ops) r.ops.length (r.pV 0)) := by
  refine conW_read hP1 (fun pr w0 hG => withQ_ok (sm0_ok pr w0) (fnP_ok gt_stands hG fun args μ X c p h hp => ?_)) (c12_came r.h (rqsD r.ops) r.ops.length (r.pV 0)) (by simp [wsRq, limit]) ⟨rfl, rfl, by simp, boxed_bd _ _ _, by decide, by simp [wsRq]⟩ (by simp [rqVals, wsRq]) (pure_int _ _) (fun ι ι' f g h => rq_ap ι ι' f g h) (by intro σ; simp [upV])
  unfold g20 at h
  split at h
  · cases h
    exact ⟨con20 r.parts r 0 (Nat.le_refl _) hb (by omega), fun _ => rfl, fun _ => rfl, pure_int _ _⟩
  · cases h
theorem con11 {r : Rq} (hb : r.big) : ConWG GT Tryz.prog 11 (kn11 r.h (rqsD r.ops) r.ops.length (decide (20000 < r.pV 0))) := by
  have hc := c11_came r.h (rqsD r.ops) r.ops.length (r.pV 0)
  have e : decide ((r.pV 0 : Int) > 20000) = decide (20000 < r.pV 0) := by
    by_cases h : 20000 < r.pV 0
    · rw [decide_eq_true h]; exact decide_eq_true (by omega)
    · rw [decide_eq_false h]; exact decide_eq_false (by omega)
  rw [e] at hc
  refine conW_read hP1 (fun pr w0 hG => withQ_ok (sm0_ok pr w0) (fnP_ok gt_stands hG fun args μ X c p h hp => ?_)) hc (by simp [wsRq, limit]) ⟨rfl, rfl, by simp, boxed_bd _ _ _, by decide, by simp [wsRq]⟩ (by simp [rqVals, wsRq]) (pure_bool _) (fun ι ι' f g h => rq_ap ι ι' f g h) (by intro σ; simp [upV])
  unfold g12 at h
  split at h
  · cases h
    exact ⟨con12 hb, fun _ => rfl, fun _ => rfl, pure_int _ _⟩
  · cases h
structure Tx where
  z0 : Int
  z1 : Int
  f0 : Int
  f1 : Int
  f2 : Int
  r : Rq
def Tx.d (t : Tx) : List Deep := [.val (.int .u32 t.z0), .val (.int .u32 t.z1), .val (.int .i8 t.f0), .val (.int .u32 t.f1), .val (.int .i64 t.f2)] ++ t.r.d
def tx0 : Tx := ⟨0, 0, 0, 0, 0, rq0⟩
theorem Tx.d_len (t : Tx) : t.d.length = 16 := by simp [Tx.d, Rq.d_len]
def txsD (l : List Tx) : List Deep := rows (fun j => (l.getD j tx0).d) l.length
theorem txsD_get {l : List Tx} {k : Nat} (h : k < l.length) : List.take 16 (List.drop (0 + Int.toNat (k : Int) * 16) (txsD l)) = l[k].d := by
  rw [Nat.zero_add, Int.toNat_natCast, txsD, rows_at (s := 16) (fun _ _ => Tx.d_len _) h, List.getD_eq_getElem?_getD, List.getElem?_eq_getElem h]; rfl
theorem txsD_req {l : List Tx} {k : Nat} (h : k < l.length) : List.take 11 (List.drop (0 + Int.toNat (k : Int) * 16 + 5) (txsD l)) = l[k].r.d := by
  have := txsD_get h
  rw [← List.drop_drop]
  have e : List.take 11 (List.drop 5 (List.take 16 (List.drop (0 + Int.toNat (k : Int) * 16) (txsD l)))) = List.take 11 (List.drop 5 (List.drop (0 + Int.toNat (k : Int) * 16) (txsD l))) := by
    rw [List.drop_take, List.take_take]; rfl
  rw [← e, this, Tx.d]
  show List.take 11 l[k].r.d = l[k].r.d
  rw [List.take_of_length_le (by rw [Rq.d_len]; omega)]
def lgF : List Tx → Nat → Bool
  | [], _ => false
  | t :: r, N => if N ≤ 1000000 then (if 20000 < t.r.pV 0 then true else lgF r (N + 1 + t.r.pV 0)) else false
def lgN : List Tx → Nat → Nat
  | [], N => N
  | t :: r, N => if N ≤ 1000000 then (if 20000 < t.r.pV 0 then N else lgN r (N + 1 + t.r.pV 0)) else N
def lgB (l : List Tx) : Bool := lgF l 0 || decide (1000000 < lgN l 0)
theorem lg_stop {l : List Tx} {N : Nat} (h : l = [] ∨ ¬ N ≤ 1000000) : lgF l N = false ∧ lgN l N = N := by
  rcases h with rfl | h
  · exact ⟨rfl, rfl⟩
  · cases l with
    | nil => exact ⟨rfl, rfl⟩
    | cons a r => rw [lgF, lgN, if_neg h, if_neg h]; exact ⟨rfl, rfl⟩
theorem lg_drop {l : List Tx} {k N : Nat} (h : k < l.length) (hN : N ≤ 1000000) (hs : ¬ 20000 < l[k].r.pV 0) : lgF (l.drop k) N = lgF (l.drop (k + 1)) (N + 1 + l[k].r.pV 0) ∧ lgN (l.drop k) N = lgN (l.drop (k + 1)) (N + 1 + l[k].r.pV 0) := by
  rw [List.drop_eq_getElem_cons h, lgF, lgN, if_pos hN, if_pos hN, if_neg hs, if_neg hs]; exact ⟨rfl, rfl⟩
theorem lg_hit {l : List Tx} {k N : Nat} (h : k < l.length) (hN : N ≤ 1000000) (hs : 20000 < l[k].r.pV 0) : lgF (l.drop k) N = true := by
  rw [List.drop_eq_getElem_cons h, lgF, if_pos hN, if_pos hs]
theorem sL_ok {pr : Prot} {w0 : World} (hG : GT pr w0) {r : Rq} (hb : r.big) {b : Bool} (hs : decide (20000 < r.pV 0) = b) : SmOk Tryz.prog E1 pr w0 (s4 r.h (rqsD r.ops) r.ops.length (r.pV 0) b) := by
  refine withQ_ok (withQ_ok (sm0_ok pr w0) (fnP_ok gt_stands hG fun args μ X c p h hp => ?_)) (fnP_ok gt_stands hG fun args μ X c p h hp => ?_)
  · unfold g12 at h
    split at h
    · cases h; exact ⟨con12 hb, fun _ => rfl, fun _ => rfl, pure_int _ _⟩
    · cases h
  · unfold g12 at h
    split at h
    · cases h; subst hs; exact ⟨con11 hb, fun _ => rfl, fun _ => rfl, pure_bool _⟩
    · cases h
def kn4 (l : List Tx) : ConW := ⟨fun X => [X 0], [.d (txsD l) l.length], fun _ => .bool (lgB l), fun _ => []⟩
theorem con4 {l : List Tx} (hl : l.length ≤ 1125899906842624) (hb : ∀ t ∈ l, t.r.big) : ConWG GT Tryz.prog 4 (kn4 l) := by
  have hF : ∀ ts, (∀ p ∈ ts, Bd 2 p.2) → smallN ts = true → Fits 2 ts (oL l.length (txsD l)) 2 := fun ts h1 h2 => ⟨h2, rfl, h1, by simp [oL, BdO], by decide, by decide⟩
  have hh : Here E1 4 [0, 0, 1, 0, 1, 1] (codeAt Tryz.f4 [0, 0, 1, 0, 1, 1]) := codeAt_here (fn := Tryz.f4) (by kernel_rfl) (by kernel_rfl)
  have ap : ∀ (ι ι' : Ren) (f g : Nat → Value), (∀ i, i < 1 → conc ι (f i) = conc ι' (g i)) → ([f 0]).map (conc ι) = ([g 0]).map (conc ι') := by
    intro ι ι' f g h; simp [h 0 (by simp)]
  have hpv : ∀ k (h : k < l.length), l[k].r.pV 0 ≤ 4503599627390496 := fun k h => pV_bound (hb _ (List.getElem_mem h))
  have key : ∀ (N M k : Nat) (_ : M ≤ 1000000) (h : k < l.length) (_ : ¬ 20000 < l[k].r.pV 0), IntKind.wrap .i64 (IntKind.wrap .i64 ((M : Int) + 1) + ((l[k].r.pV 0 : Nat) : Int)) = ((M + 1 + l[k].r.pV 0 : Nat) : Int) := by
    intro N M k hM h hs
    rw [i64_small (n := (M : Int) + 1) (by omega) (by omega), i64_small (by omega) (by omega)]; omega
  cases hf : lgF l 0 with
  | true =>
    have e : lgB l = true := by rw [lgB, hf]; rfl
    unfold kn4
    rw [e]
    refine conW_read hP1 (s := qLr l.length (txsD l)) (fun pr w0 hG => withL_ok (sm0_ok pr w0) (fn := Tryz.f4) (c := .block 0 (.loop (codeAt Tryz.f4 [0, 0, 1, 0, 1, 1]))) (by kernel_rfl) (by kernel_rfl) (block_ret (hF _ (by simp [tL]) rfl) ?_)) (cLr_came l.length (txsD l)) (by simp [limit]) (hF _ (by simp) rfl) (by simp) (pure_bool _) ap (by intro σ; simp [upV])
    refine rounds_tri (T := { p : Nat × Nat // p.1 ≤ l.length ∧ lgF (l.drop p.1) p.2 = true }) ⟨32, fun t => tL t.1.2 t.1.1, fun _ => oL l.length (txsD l), fun _ => 2, fun t => l.length - t.1.1⟩ ?_ ⟨(0, 0), Nat.zero_le _, hf⟩
    rintro ⟨⟨k, M⟩, hk, hinv⟩
    simp only at hk hinv
    have hlt : k < l.length := by
      by_cases h : k < l.length
      · exact h
      · rw [(lg_stop (.inl (List.drop_eq_nil_of_le (by omega)))).1] at hinv; cases hinv
    have hM : M ≤ 1000000 := by
      by_cases h : M ≤ 1000000
      · exact h
      · rw [(lg_stop (.inr h)).1] at hinv; cases hinv
    by_cases hs : 20000 < l[k].r.pV 0
    · have hc := eLr_came l[k].r.h (txsD l) (rqsD l[k].r.ops) l.length l[k].r.ops.length k M (l[k].r.pV 0) (by simp; omega) (by simp; omega) (by omega) (by rw [txsD_req hlt, Rq.d_eq])
      exact out_keep hP1 (sL_ok hG (hb _ (List.getElem_mem hlt)) (decide_eq_true hs)) hh hc (ts := [(2, .bool true)]) (os := oL l.length (txsD l)) (by simp) (by simp [oL]) (by simp) (by simp) (hF _ (by simp) rfl) ⟨rfl, rfl, rfl⟩
    · have hc := eLa_came l[k].r.h (txsD l) (rqsD l[k].r.ops) l.length l[k].r.ops.length k M (l[k].r.pV 0) (by simp; omega) (by simp; omega) (by omega) (by rw [txsD_req hlt, Rq.d_eq])
      rw [key 0 M k hM hlt hs, i64_succ (k := k) (by omega)] at hc
      exact on_keep hP1 (sL_ok hG (hb _ (List.getElem_mem hlt)) (decide_eq_false hs)) hh hc ⟨(k + 1, M + 1 + l[k].r.pV 0), hlt, by simp only; rw [← hinv, (lg_drop hlt hM hs).1]⟩ (by simp [tL]) (by simp [oL]) (by simp only; omega) (hF _ (by simp [tL]) rfl)
  | false =>
    have e : lgB l = decide (1000000 < lgN l 0) := by rw [lgB, hf]; rfl
    have e2 : decide ((lgN l 0 : Int) > 1000000) = decide (1000000 < lgN l 0) := by
      by_cases h : 1000000 < lgN l 0
      · rw [decide_eq_true h]; exact decide_eq_true (by omega)
      · rw [decide_eq_false h]; exact decide_eq_false (by omega)
    have hc0 := cLn_came l.length (txsD l) (lgN l 0)
    rw [e2] at hc0
    unfold kn4
    rw [e]
    refine conW_read hP1 (s := qLn l.length (txsD l) (lgN l 0)) (fun pr w0 hG => withL_ok (sm0_ok pr w0) (fn := Tryz.f4) (c := .block 0 (.loop (codeAt Tryz.f4 [0, 0, 1, 0, 1, 1]))) (by kernel_rfl) (by kernel_rfl) (block_end (hF _ (by simp [tL]) rfl) ?_)) hc0 (by simp [limit]) (hF _ (by simp) rfl) (by simp) (pure_bool _) ap (by intro σ; simp [upV])
    refine rounds_tri (T := { p : Nat × Nat // p.1 ≤ l.length ∧ lgF (l.drop p.1) p.2 = false ∧ lgN (l.drop p.1) p.2 = lgN l 0 }) ⟨32, fun t => tL t.1.2 t.1.1, fun _ => oL l.length (txsD l), fun _ => 2, fun t => l.length - t.1.1⟩ ?_ ⟨(0, 0), Nat.zero_le _, hf, rfl⟩
    rintro ⟨⟨k, M⟩, hk, hinv, hinv2⟩
    simp only at hk hinv hinv2
    by_cases hlt : k < l.length
    · by_cases hM : M ≤ 1000000
      · have hs : ¬ 20000 < l[k].r.pV 0 := fun hs => by rw [lg_hit hlt hM hs] at hinv; cases hinv
        have hc := eLa_came l[k].r.h (txsD l) (rqsD l[k].r.ops) l.length l[k].r.ops.length k M (l[k].r.pV 0) (by simp; omega) (by simp; omega) (by omega) (by rw [txsD_req hlt, Rq.d_eq])
        rw [key 0 M k hM hlt hs, i64_succ (k := k) (by omega)] at hc
        exact on_keep hP1 (sL_ok hG (hb _ (List.getElem_mem hlt)) (decide_eq_false hs)) hh hc ⟨(k + 1, M + 1 + l[k].r.pV 0), hlt, by simp only; rw [← hinv, (lg_drop hlt hM hs).1], by simp only; rw [← hinv2, (lg_drop hlt hM hs).2]⟩ (by simp [tL]) (by simp [oL]) (by simp only; omega) (hF _ (by simp [tL]) rfl)
      · have hc := cut_came (eLb_came (txsD l) l.length k M (by simp; omega) (by simp; omega)) (ts' := [(3, .int .i64 M)]) (by simp)
        refine out_came hP1 (sm0_ok pr w0) hh hc (by simp) (by simp) (hF _ (by simp) rfl) ⟨rfl, ?_, rfl⟩
        rw [← hinv2, (lg_stop (.inr hM)).2]
    · have hc := cut_came (eLc_came (txsD l) l.length k M (by simp; omega)) (ts' := [(3, .int .i64 M)]) (by simp)
      refine out_came hP1 (sm0_ok pr w0) hh hc (by simp) (by simp) (hF _ (by simp) rfl) ⟨rfl, ?_, rfl⟩
      rw [← hinv2, (lg_stop (.inl (List.drop_eq_nil_of_le (by omega)))).2]
end Go.Abs
end
