/-
  What the law's functions come to: part E.
-/
import Derived.Test.YtpgiplnglpimjabGreatDoorDaD
import Derived.Test.YtpgiplnglpimjabGreatDoorBmC
import Derived.Test.YtpgiplnglpimjabGreatDoorBmE
set_option linter.unusedVariables false
set_option linter.unusedSimpArgs false
set_option linter.unusedSectionVars false
section
namespace Go.Abs
open Go.Proofs
set_option maxRecDepth 100000
def pq13 (bs : List Int) (es : List Ent) (nm : ByteArray) (x : Nat → Int) (h : Int) : List Value → Hp → Option (Value × Prop) := fun args μ => match args with
  | [.agg ⟨[_, d, a, _, _, _, _, _, _, _, _, _, _, _, _, _]⟩] => bif Nat.ble (μ.next + 4) limit then pureW [d, a] (kn13 bs es nm x h) args μ else none
  | _ => none
def s6 (bs : List Int) (es : List Ent) (nm : ByteArray) (x : Nat → Int) (h : Int) : Sm := withQ sm0 13 (pq13 bs es nm x h)
def s7 (bs : List Int) (es : List Ent) (nm : ByteArray) (x : Nat → Int) (h : Int) : Sm := withQ sm0 14 (pq13 bs es nm x h)
def o6 (n m : Nat) (g c : List Deep) : List (Nat × AObj) := [(0, .ro g), (1, .word n 0), (2, .ro c), (3, .word m 2)]
def t6a (d : Int) (n k : Nat) : List (Nat × Value) := [(0, .int .u64 d), (2, .chan (some 3)), (11, .chan (some 1)), (12, .int .i64 n), (13, .int .i64 k)]
def t6b (d : Int) (m k : Nat) : List (Nat × Value) := [(0, .int .u64 d), (22, .chan (some 3)), (23, .int .i64 m), (24, .int .i64 k)]
def t7a (d : Int) (k : Nat) : List (Nat × Value) := [(0, .int .u64 d), (1, .chan (some 1)), (2, .chan (some 3)), (7, .int .i64 k)]
def t7b (d : Int) (k : Nat) : List (Nat × Value) := [(0, .int .u64 d), (1, .chan (some 1)), (8, .int .i64 k)]
theorem e6a_came (d : Int) (h : Int) (n : Nat) (m : Nat) (k : Nat) (g : List Deep) (c : List Deep) (bs : List Int) (es : List Ent) (nm : ByteArray) (x : Nat → Int) (h0 : decide ((↑k : Int) < (↑n : Int)) = true) (h1 : 0 ≤ (↑k : Int) ∧ (↑k : Int) < (↑n : Int)) (h2 : List.take 16 (List.drop (0 + Int.toNat (↑k : Int) * 16) g) = nodeW nm bs es x) (h3 : List.take (List.length (bv bs)) (List.drop 0 (List.map Deep.val (row26 bs (List.length bs + 64)))) = List.map Deep.val (bv bs)) (h4 : List.take (List.length (av es)) (List.drop 0 (List.map Deep.val (row27 es (List.length es + 64)))) = List.map Deep.val (av es)) :
    Ran (codeO Tryz.prog E1 (s6 bs es nm x h) noRun 100 6 [0, 0, 1, 0, 1] (codeAt Tryz.f6 [0, 0, 1, 0, 1]) (mkFr 34 (t6a d n k)) (mkHp 4 (o6 n m g c)) [.skip 1, .b true, .sym, .dp (nodeW nm bs es x)] True) (Exit.normal) 34 [(0, Value.int .u64 (IntKind.wrap .u64 (d - h))), (2, Value.chan (some 3)), (11, Value.chan (some 1)), (12, Value.int .i64 (↑n : Int)), (13, Value.int .i64 (IntKind.wrap .i64 ((↑k : Int) + 1)))] [(0, AObj.ro g), (1, AObj.word n 0), (2, AObj.ro c), (3, AObj.word m 2), (4, AObj.ro (List.map Deep.val (row26 bs (List.length bs + 64)))), (5, AObj.ro (List.map Deep.val (row27 es (List.length es + 64)))), (6, AObj.cells [Value.string nm, Value.slice (some ⟨4, 0, none⟩) (List.length bs) (2 * (List.length bs + 64)), Value.slice (some ⟨5, 0, none⟩) (List.length es) (2 * (List.length es + 64)), Value.int .u32 (x 0), Value.int .u32 (x 1), Value.int .u32 (x 2), Value.int .u32 (x 3), Value.int .u32 (x 4), Value.int .u32 (x 5), Value.int .i32 (x 6), Value.int .i32 (x 7), Value.int .i32 (x 8), Value.int .i64 (x 9), Value.int .i64 (x 10), Value.int .i64 (x 11), Value.int .i32 (x 12)] 0)] 7 :=
  cameF_of (O := ((((True ∧ decide ((↑k : Int) < (↑n : Int)) = true) ∧ 0 ≤ (↑k : Int) ∧ (↑k : Int) < (↑n : Int)) ∧ List.take 16 (List.drop (0 + Int.toNat (↑k : Int) * 16) g) = nodeW nm bs es x) ∧ [Value.agg (Array.mk [Value.string nm, Value.slice (some ⟨4, 0, none⟩) (List.length bs) (2 * (List.length bs + 64)), Value.slice (some ⟨5, 0, none⟩) (List.length es) (2 * (List.length es + 64)), Value.int .u32 (x 0), Value.int .u32 (x 1), Value.int .u32 (x 2), Value.int .u32 (x 3), Value.int .u32 (x 4), Value.int .u32 (x 5), Value.int .i32 (x 6), Value.int .i32 (x 7), Value.int .i32 (x 8), Value.int .i64 (x 9), Value.int .i64 (x 10), Value.int .i64 (x 11), Value.int .i32 (x 12)])] = [Value.agg (Array.mk [Value.string nm, Value.slice (some ⟨4, 0, none⟩) (List.length bs) (2 * (List.length bs + 64)), Value.slice (some ⟨5, 0, none⟩) (List.length es) (2 * (List.length es + 64)), Value.int .u32 (x 0), Value.int .u32 (x 1), Value.int .u32 (x 2), Value.int .u32 (x 3), Value.int .u32 (x 4), Value.int .u32 (x 5), Value.int .i32 (x 6), Value.int .i32 (x 7), Value.int .i32 (x 8), Value.int .i64 (x 9), Value.int .i64 (x 10), Value.int .i64 (x 11), Value.int .i32 (x 12)])] ∧ (Wd.len (Wd.v (bv bs) (List.length bs)) = Wd.len (Wd.v (bv bs) (List.length bs)) ∧ List.take (List.length (bv bs)) (List.drop 0 (List.map Deep.val (row26 bs (List.length bs + 64)))) = List.map Deep.val (bv bs)) ∧ (Wd.len (Wd.v (av es) (List.length es)) = Wd.len (Wd.v (av es) (List.length es)) ∧ List.take (List.length (av es)) (List.drop 0 (List.map Deep.val (row27 es (List.length es + 64)))) = List.map Deep.val (av es)) ∧ True)) (by kernel_rfl) ⟨⟨⟨⟨trivial, h0⟩, h1⟩, h2⟩, ⟨rfl, ⟨⟨rfl, h3⟩, ⟨⟨rfl, h4⟩, trivial⟩⟩⟩⟩
theorem e6b_came (d : Int) (n : Nat) (m : Nat) (k : Nat) (g : List Deep) (c : List Deep) (h0 : decide ((↑k : Int) < (↑n : Int)) = false) :
    Ran (codeO Tryz.prog E1 (sm0) noRun 100 6 [0, 0, 1, 0, 1] (codeAt Tryz.f6 [0, 0, 1, 0, 1]) (mkFr 34 (t6a d n k)) (mkHp 4 (o6 n m g c)) [.skip 1, .b false] True) (Exit.exit 0) 34 [(0, Value.int .u64 d), (2, Value.chan (some 3))] [(0, AObj.ro g), (1, AObj.word n 0), (2, AObj.ro c), (3, AObj.word m 2)] 4 :=
  cameF_of (O := (True ∧ decide ((↑k : Int) < (↑n : Int)) = false)) (by kernel_rfl) ⟨trivial, h0⟩
theorem e6c_came (d : Int) (h : Int) (n : Nat) (m : Nat) (k : Nat) (g : List Deep) (c : List Deep) (bs : List Int) (es : List Ent) (nm : ByteArray) (x : Nat → Int) (h0 : decide ((↑k : Int) < (↑m : Int)) = true) (h1 : 0 ≤ (↑k : Int) ∧ (↑k : Int) < (↑m : Int)) (h2 : List.take 16 (List.drop (0 + Int.toNat (↑k : Int) * 16) c) = nodeW nm bs es x) (h3 : List.take (List.length (bv bs)) (List.drop 0 (List.map Deep.val (row26 bs (List.length bs + 64)))) = List.map Deep.val (bv bs)) (h4 : List.take (List.length (av es)) (List.drop 0 (List.map Deep.val (row27 es (List.length es + 64)))) = List.map Deep.val (av es)) :
    Ran (codeO Tryz.prog E1 (s6 bs es nm x h) noRun 100 6 [0, 0, 1, 0, 1, 1] (codeAt Tryz.f6 [0, 0, 1, 0, 1, 1]) (mkFr 34 (t6b d m k)) (mkHp 4 (o6 n m g c)) [.skip 1, .b true, .sym, .dp (nodeW nm bs es x)] True) (Exit.normal) 34 [(0, Value.int .u64 (IntKind.wrap .u64 (d + h))), (22, Value.chan (some 3)), (23, Value.int .i64 (↑m : Int)), (24, Value.int .i64 (IntKind.wrap .i64 ((↑k : Int) + 1)))] [(0, AObj.ro g), (1, AObj.word n 0), (2, AObj.ro c), (3, AObj.word m 2), (4, AObj.ro (List.map Deep.val (row26 bs (List.length bs + 64)))), (5, AObj.ro (List.map Deep.val (row27 es (List.length es + 64)))), (6, AObj.cells [Value.string nm, Value.slice (some ⟨4, 0, none⟩) (List.length bs) (2 * (List.length bs + 64)), Value.slice (some ⟨5, 0, none⟩) (List.length es) (2 * (List.length es + 64)), Value.int .u32 (x 0), Value.int .u32 (x 1), Value.int .u32 (x 2), Value.int .u32 (x 3), Value.int .u32 (x 4), Value.int .u32 (x 5), Value.int .i32 (x 6), Value.int .i32 (x 7), Value.int .i32 (x 8), Value.int .i64 (x 9), Value.int .i64 (x 10), Value.int .i64 (x 11), Value.int .i32 (x 12)] 0)] 7 :=
  cameF_of (O := ((((True ∧ decide ((↑k : Int) < (↑m : Int)) = true) ∧ 0 ≤ (↑k : Int) ∧ (↑k : Int) < (↑m : Int)) ∧ List.take 16 (List.drop (0 + Int.toNat (↑k : Int) * 16) c) = nodeW nm bs es x) ∧ [Value.agg (Array.mk [Value.string nm, Value.slice (some ⟨4, 0, none⟩) (List.length bs) (2 * (List.length bs + 64)), Value.slice (some ⟨5, 0, none⟩) (List.length es) (2 * (List.length es + 64)), Value.int .u32 (x 0), Value.int .u32 (x 1), Value.int .u32 (x 2), Value.int .u32 (x 3), Value.int .u32 (x 4), Value.int .u32 (x 5), Value.int .i32 (x 6), Value.int .i32 (x 7), Value.int .i32 (x 8), Value.int .i64 (x 9), Value.int .i64 (x 10), Value.int .i64 (x 11), Value.int .i32 (x 12)])] = [Value.agg (Array.mk [Value.string nm, Value.slice (some ⟨4, 0, none⟩) (List.length bs) (2 * (List.length bs + 64)), Value.slice (some ⟨5, 0, none⟩) (List.length es) (2 * (List.length es + 64)), Value.int .u32 (x 0), Value.int .u32 (x 1), Value.int .u32 (x 2), Value.int .u32 (x 3), Value.int .u32 (x 4), Value.int .u32 (x 5), Value.int .i32 (x 6), Value.int .i32 (x 7), Value.int .i32 (x 8), Value.int .i64 (x 9), Value.int .i64 (x 10), Value.int .i64 (x 11), Value.int .i32 (x 12)])] ∧ (Wd.len (Wd.v (bv bs) (List.length bs)) = Wd.len (Wd.v (bv bs) (List.length bs)) ∧ List.take (List.length (bv bs)) (List.drop 0 (List.map Deep.val (row26 bs (List.length bs + 64)))) = List.map Deep.val (bv bs)) ∧ (Wd.len (Wd.v (av es) (List.length es)) = Wd.len (Wd.v (av es) (List.length es)) ∧ List.take (List.length (av es)) (List.drop 0 (List.map Deep.val (row27 es (List.length es + 64)))) = List.map Deep.val (av es)) ∧ True)) (by kernel_rfl) ⟨⟨⟨⟨trivial, h0⟩, h1⟩, h2⟩, ⟨rfl, ⟨⟨rfl, h3⟩, ⟨⟨rfl, h4⟩, trivial⟩⟩⟩⟩
theorem e6d_came (d : Int) (n : Nat) (m : Nat) (k : Nat) (g : List Deep) (c : List Deep) (h0 : decide ((↑k : Int) < (↑m : Int)) = false) :
    Ran (codeO Tryz.prog E1 (sm0) noRun 100 6 [0, 0, 1, 0, 1, 1] (codeAt Tryz.f6 [0, 0, 1, 0, 1, 1]) (mkFr 34 (t6b d m k)) (mkHp 4 (o6 n m g c)) [.skip 1, .b false] True) (Exit.exit 2) 34 [(0, Value.int .u64 d)] [(0, AObj.ro g), (1, AObj.word n 0), (2, AObj.ro c), (3, AObj.word m 2)] 4 :=
  cameF_of (O := (True ∧ decide ((↑k : Int) < (↑m : Int)) = false)) (by kernel_rfl) ⟨trivial, h0⟩
theorem e7a_came (d : Int) (h : Int) (n : Nat) (m : Nat) (k : Nat) (g : List Deep) (c : List Deep) (bs : List Int) (es : List Ent) (nm : ByteArray) (x : Nat → Int) (h0 : decide ((↑k : Int) < (↑m : Int)) = true) (h1 : 0 ≤ (↑k : Int) ∧ (↑k : Int) < (↑m : Int)) (h2 : List.take 16 (List.drop (0 + Int.toNat (↑k : Int) * 16) c) = nodeD nm bs es x) :
    Ran (codeO Tryz.prog E1 (s7 bs es nm x h) noRun 100 7 [0, 0, 1, 0, 1] (codeAt Tryz.f7 [0, 0, 1, 0, 1]) (mkFr 36 (t7a d k)) (mkHp 4 (o6 n m g c)) [.skip 4, .b true, .skip 3, .sym, .dp (nodeD nm bs es x)] True) (Exit.normal) 36 [(0, Value.int .u64 (IntKind.wrap .u64 (d + h))), (1, Value.chan (some 1)), (2, Value.chan (some 3)), (7, Value.int .i64 (IntKind.wrap .i64 ((↑k : Int) + 1)))] [(0, AObj.ro g), (1, AObj.word n 0), (2, AObj.ro c), (3, AObj.word m 2), (4, AObj.rov (bv bs)), (5, AObj.word (List.length bs) 4), (6, AObj.rov (av es)), (7, AObj.word (List.length es) 6)] 8 :=
  cameF_of (O := ((((True ∧ decide ((↑k : Int) < (↑m : Int)) = true) ∧ 0 ≤ (↑k : Int) ∧ (↑k : Int) < (↑m : Int)) ∧ List.take 16 (List.drop (0 + Int.toNat (↑k : Int) * 16) c) = nodeD nm bs es x) ∧ [Value.agg (Array.mk [Value.string nm, Value.chan (some 5), Value.chan (some 7), Value.int .u32 (x 0), Value.int .u32 (x 1), Value.int .u32 (x 2), Value.int .u32 (x 3), Value.int .u32 (x 4), Value.int .u32 (x 5), Value.int .i32 (x 6), Value.int .i32 (x 7), Value.int .i32 (x 8), Value.int .i64 (x 9), Value.int .i64 (x 10), Value.int .i64 (x 11), Value.int .i32 (x 12)])] = [Value.agg (Array.mk [Value.string nm, Value.chan (some 5), Value.chan (some 7), Value.int .u32 (x 0), Value.int .u32 (x 1), Value.int .u32 (x 2), Value.int .u32 (x 3), Value.int .u32 (x 4), Value.int .u32 (x 5), Value.int .i32 (x 6), Value.int .i32 (x 7), Value.int .i32 (x 8), Value.int .i64 (x 9), Value.int .i64 (x 10), Value.int .i64 (x 11), Value.int .i32 (x 12)])] ∧ (Wd.len (Wd.v (bv bs) (List.length bs)) = Wd.len (Wd.v (bv bs) (List.length bs)) ∧ bv bs = bv bs) ∧ (Wd.len (Wd.v (av es) (List.length es)) = Wd.len (Wd.v (av es) (List.length es)) ∧ av es = av es) ∧ True)) (by kernel_rfl) ⟨⟨⟨⟨trivial, h0⟩, h1⟩, h2⟩, ⟨rfl, ⟨⟨rfl, rfl⟩, ⟨⟨rfl, rfl⟩, trivial⟩⟩⟩⟩
theorem e7b_came (d : Int) (n : Nat) (m : Nat) (k : Nat) (g : List Deep) (c : List Deep) (h0 : decide ((↑k : Int) < (↑m : Int)) = false) :
    Ran (codeO Tryz.prog E1 (sm0) noRun 100 7 [0, 0, 1, 0, 1] (codeAt Tryz.f7 [0, 0, 1, 0, 1]) (mkFr 36 (t7a d k)) (mkHp 4 (o6 n m g c)) [.skip 4, .b false] True) (Exit.exit 0) 36 [(0, Value.int .u64 d), (1, Value.chan (some 1))] [(0, AObj.ro g), (1, AObj.word n 0), (2, AObj.ro c), (3, AObj.word m 2)] 4 :=
  cameF_of (O := (True ∧ decide ((↑k : Int) < (↑m : Int)) = false)) (by kernel_rfl) ⟨trivial, h0⟩
theorem e7c_came (d : Int) (h : Int) (n : Nat) (m : Nat) (k : Nat) (g : List Deep) (c : List Deep) (bs : List Int) (es : List Ent) (nm : ByteArray) (x : Nat → Int) (h0 : decide ((↑k : Int) < (↑n : Int)) = true) (h1 : 0 ≤ (↑k : Int) ∧ (↑k : Int) < (↑n : Int)) (h2 : List.take 16 (List.drop (0 + Int.toNat (↑k : Int) * 16) g) = nodeD nm bs es x) :
    Ran (codeO Tryz.prog E1 (s7 bs es nm x h) noRun 100 7 [0, 0, 1, 0, 1, 1] (codeAt Tryz.f7 [0, 0, 1, 0, 1, 1]) (mkFr 36 (t7b d k)) (mkHp 4 (o6 n m g c)) [.skip 4, .b true, .skip 3, .sym, .dp (nodeD nm bs es x)] True) (Exit.normal) 36 [(0, Value.int .u64 (IntKind.wrap .u64 (d - h))), (1, Value.chan (some 1)), (8, Value.int .i64 (IntKind.wrap .i64 ((↑k : Int) + 1)))] [(0, AObj.ro g), (1, AObj.word n 0), (2, AObj.ro c), (3, AObj.word m 2), (4, AObj.rov (bv bs)), (5, AObj.word (List.length bs) 4), (6, AObj.rov (av es)), (7, AObj.word (List.length es) 6)] 8 :=
  cameF_of (O := ((((True ∧ decide ((↑k : Int) < (↑n : Int)) = true) ∧ 0 ≤ (↑k : Int) ∧ (↑k : Int) < (↑n : Int)) ∧ List.take 16 (List.drop (0 + Int.toNat (↑k : Int) * 16) g) = nodeD nm bs es x) ∧ [Value.agg (Array.mk [Value.string nm, Value.chan (some 5), Value.chan (some 7), Value.int .u32 (x 0), Value.int .u32 (x 1), Value.int .u32 (x 2), Value.int .u32 (x 3), Value.int .u32 (x 4), Value.int .u32 (x 5), Value.int .i32 (x 6), Value.int .i32 (x 7), Value.int .i32 (x 8), Value.int .i64 (x 9), Value.int .i64 (x 10), Value.int .i64 (x 11), Value.int .i32 (x 12)])] = [Value.agg (Array.mk [Value.string nm, Value.chan (some 5), Value.chan (some 7), Value.int .u32 (x 0), Value.int .u32 (x 1), Value.int .u32 (x 2), Value.int .u32 (x 3), Value.int .u32 (x 4), Value.int .u32 (x 5), Value.int .i32 (x 6), Value.int .i32 (x 7), Value.int .i32 (x 8), Value.int .i64 (x 9), Value.int .i64 (x 10), Value.int .i64 (x 11), Value.int .i32 (x 12)])] ∧ (Wd.len (Wd.v (bv bs) (List.length bs)) = Wd.len (Wd.v (bv bs) (List.length bs)) ∧ bv bs = bv bs) ∧ (Wd.len (Wd.v (av es) (List.length es)) = Wd.len (Wd.v (av es) (List.length es)) ∧ av es = av es) ∧ True)) (by kernel_rfl) ⟨⟨⟨⟨trivial, h0⟩, h1⟩, h2⟩, ⟨rfl, ⟨⟨rfl, rfl⟩, ⟨⟨rfl, rfl⟩, trivial⟩⟩⟩⟩
theorem e7d_came (d : Int) (n : Nat) (m : Nat) (k : Nat) (g : List Deep) (c : List Deep) (h0 : decide ((↑k : Int) < (↑n : Int)) = false) :
    Ran (codeO Tryz.prog E1 (sm0) noRun 100 7 [0, 0, 1, 0, 1, 1] (codeAt Tryz.f7 [0, 0, 1, 0, 1, 1]) (mkFr 36 (t7b d k)) (mkHp 4 (o6 n m g c)) [.skip 4, .b false] True) (Exit.exit 2) 36 [(0, Value.int .u64 d)] [(0, AObj.ro g), (1, AObj.word n 0), (2, AObj.ro c), (3, AObj.word m 2)] 4 :=
  cameF_of (O := (True ∧ decide ((↑k : Int) < (↑n : Int)) = false)) (by kernel_rfl) ⟨trivial, h0⟩
def q6 (d d1 d2 : Int) (n m : Nat) (g c : List Deep) : Sm := withL (withL sm0 6 [1, 0, 1] (piece 34 (t6a d n 0) (o6 n m g c) 4 .normal (mkFr 34 [(0, .int .u64 d1), (2, .chan (some 3))]) (mkHp 4 (o6 n m g c)))) 6 [1, 0, 1, 1] (piece 34 (t6b d1 m 0) (o6 n m g c) 4 .normal (mkFr 34 [(0, .int .u64 d2)]) (mkHp 4 (o6 n m g c)))
def q7 (d d1 d2 : Int) (n m : Nat) (g c : List Deep) : Sm := withL (withL sm0 7 [1, 0, 1] (piece 36 (t7a d 0) (o6 n m g c) 4 .normal (mkFr 36 [(0, .int .u64 d1), (1, .chan (some 1))]) (mkHp 4 (o6 n m g c)))) 7 [1, 0, 1, 1] (piece 36 (t7b d1 0) (o6 n m g c) 4 .normal (mkFr 36 [(0, .int .u64 d2)]) (mkHp 4 (o6 n m g c)))
theorem c6_came (d : Int) (d1 : Int) (d2 : Int) (n : Nat) (m : Nat) (g : List Deep) (c : List Deep)  :
    RanC (runO Tryz.prog E1 (q6 d d1 d2 n m g c) noRun 100 6 [Value.int .u64 d, Value.chan (some 1), Value.chan (some 3)] (mkHp 4 (wordsOs [Wd.d g n, Wd.d c m] 0 fun n => n)) [] True) (.returned (Value.int .u64 d2)) [(0, AObj.ro g), (1, AObj.word n 0), (2, AObj.ro c), (3, AObj.word m 2)] 4 :=
  cameCF_of (O := ((True ∧ SelfP 34 (t6a d n 0) (o6 n m g c) 4) ∧ SelfP 34 (t6b d1 m 0) (o6 n m g c) 4)) (by kernel_rfl) ⟨⟨trivial, selfP_true _ _ _ _⟩, selfP_true _ _ _ _⟩
theorem c7_came (d : Int) (d1 : Int) (d2 : Int) (n : Nat) (m : Nat) (g : List Deep) (c : List Deep)  :
    RanC (runO Tryz.prog E1 (q7 d d1 d2 n m g c) noRun 100 7 [Value.int .u64 d, Value.chan (some 1), Value.chan (some 3)] (mkHp 4 (wordsOs [Wd.d g n, Wd.d c m] 0 fun n => n)) [] True) (.returned (Value.int .u64 d2)) [(0, AObj.ro g), (1, AObj.word n 0), (2, AObj.ro c), (3, AObj.word m 2)] 4 :=
  cameCF_of (O := ((True ∧ SelfP 36 (t7a d 0) (o6 n m g c) 4) ∧ SelfP 36 (t7b d1 0) (o6 n m g c) 4)) (by kernel_rfl) ⟨⟨trivial, selfP_true _ _ _ _⟩, selfP_true _ _ _ _⟩
structure Nd.ok (nd : Nd) : Prop where
  b : nd.nm.size + nd.bs.length + (aB nd.es).length ≤ 549755813888
  m : nd.es.length < 549755813888
  p : ∀ a ∈ nd.es, -128 ≤ a.1 ∧ a.1 ≤ 127
  x : XOk nd.x
def Nd.val (nd : Nd) : Int := fnvV (nodeRow nd.nm nd.bs nd.es nd.x)
def subF (d : Int) (l : List Nd) : Int := l.foldl (fun d nd => IntKind.wrap IntKind.u64 (d - nd.val)) d
def addF (d : Int) (l : List Nd) : Int := l.foldl (fun d nd => IntKind.wrap IntKind.u64 (d + nd.val)) d
theorem subF_take {d : Int} {l : List Nd} {k : Nat} (h : k < l.length) : subF d (l.take (k + 1)) = IntKind.wrap IntKind.u64 (subF d (l.take k) - (l[k]).val) := by
  rw [subF, subF, List.take_add_one, List.getElem?_eq_getElem h, List.foldl_append]; rfl
theorem addF_take {d : Int} {l : List Nd} {k : Nat} (h : k < l.length) : addF d (l.take (k + 1)) = IntKind.wrap IntKind.u64 (addF d (l.take k) + (l[k]).val) := by
  rw [addF, addF, List.take_add_one, List.getElem?_eq_getElem h, List.foldl_append]; rfl
theorem pq13_ok {pr : Prot} {w0 : World} (hG : Tab pr w0) {f : Nat} {bs : List Int} {es : List Ent} {nm : ByteArray} {x : Nat → Int} {h : Int} (hc : ConWG Tab Tryz.prog f (kn13 bs es nm x h)) : SumOk Tryz.prog pr w0 0 f (pureS (pq13 bs es nm x h)) := by
  intro args μ e μ' p hg hp
  unfold pureS pq13 at hg
  split at hg
  · rename_i v q hq
    split at hq
    · rename_i a0 d a _ _ _ _ _ _ _ _ _ _ _ _ _ 
      exact pureW_ok (c := kn13 bs es nm x h) tab_stands hG hc (fun _ => rfl) (fun _ => rfl) (pure_int _ _) [d, a] _ μ e μ' p (by
        unfold pureS
        simp only [show 2 * (kn13 bs es nm x h).ws.length = 4 from rfl, hq]
        exact hg) hp
    · cases hq
  · cases hg
theorem s6_ok {pr : Prot} {w0 : World} (hG : Tab pr w0) {nd : Nd} (h : nd.ok) : SmOk Tryz.prog E1 pr w0 (s6 nd.bs nd.es nd.nm nd.x nd.val) := by
  have hb := h.b
  have hm := h.m
  exact withQ_ok (sm0_ok pr w0) (pq13_ok hG (con13 (by omega) (by rw [gB_len, bv_len]; simp only [gL, List.length_append, b4_len]; omega)).toT)
theorem s7_ok {pr : Prot} {w0 : World} (hG : Tab pr w0) {nd : Nd} (h : nd.ok) : SmOk Tryz.prog E1 pr w0 (s7 nd.bs nd.es nd.nm nd.x nd.val) := by
  have hb := h.b
  have hm := h.m
  exact withQ_ok (sm0_ok pr w0) (pq13_ok hG (con14 (by omega) h.p h.x (by unfold n39; omega)).toT)
theorem o6_fits {n m : Nat} {g c : List Deep} {ts : List (Nat × Value)} (h1 : ∀ p ∈ ts, Bd 4 p.2) (h2 : smallN ts = true) : Fits 4 ts (o6 n m g c) 4 := ⟨h2, rfl, h1, by simp [o6, BdO], by decide, by decide⟩
theorem lp6a {pr : Prot} {w0 : World} (hG : Tab pr w0) {g c : List Nd} (d : Int) (hl : g.length < 1099511627776) (hok : ∀ nd ∈ g, nd.ok) :
    PieceOk Tryz.prog pr w0 0 (.block 0 (.loop (codeAt Tryz.f6 [0, 0, 1, 0, 1]))) (piece 34 (t6a d g.length 0) (o6 g.length c.length (prefW g) (prefW c)) 4 .normal (mkFr 34 [(0, .int .u64 (subF d g)), (2, .chan (some 3))]) (mkHp 4 (o6 g.length c.length (prefW g) (prefW c)))) := by
  refine block_end (o6_fits (by simp [t6a, Bd]) rfl) ?_
  have hh : Here E1 6 [0, 0, 1, 0, 1] (codeAt Tryz.f6 [0, 0, 1, 0, 1]) := codeAt_here (fn := Tryz.f6) (by kernel_rfl) (by kernel_rfl)
  refine rounds_tri (T := { k : Nat // k ≤ g.length }) ⟨34, fun t => t6a (subF d (g.take t.1)) g.length t.1, fun _ => o6 g.length c.length (prefW g) (prefW c), fun _ => 4, fun t => g.length - t.1⟩ ?_ ⟨0, Nat.zero_le _⟩
  rintro ⟨k, hk⟩
  by_cases hlt : k < g.length
  · have hnd := hok g[k] (List.getElem_mem hlt)
    have hc := e6a_came (subF d (g.take k)) g[k].val g.length c.length k (prefW g) (prefW c) g[k].bs g[k].es g[k].nm g[k].x (by simp; omega) (by omega) (prefW_get hlt) (take26 _) (take27 _)
    rw [i64_succ (by omega), ← subF_take hlt] at hc
    refine on_keep hP1 (s6_ok hG hnd) hh hc ⟨k + 1, hlt⟩ (by simp [t6a]) (by simp [o6]) (by simp only; omega) (o6_fits (by simp [t6a, Bd]) rfl)
  · have hk' : k = g.length := by omega
    subst hk'
    have hc := cut_came (e6b_came (subF d (g.take g.length)) g.length c.length g.length (prefW g) (prefW c) (by simp)) (ts' := [(0, .int .u64 (subF d (g.take g.length))), (2, .chan (some 3))]) (by simp)
    exact out_came hP1 (sm0_ok pr w0) hh hc (by simp) (by simp) (o6_fits (by simp [Bd]) rfl) ⟨rfl, by rw [List.take_length], rfl⟩
theorem lp6b {pr : Prot} {w0 : World} (hG : Tab pr w0) {g c : List Nd} (d : Int) (hl : c.length < 1099511627776) (hok : ∀ nd ∈ c, nd.ok) :
    PieceOk Tryz.prog pr w0 0 (.block 2 (.loop (codeAt Tryz.f6 [0, 0, 1, 0, 1, 1]))) (piece 34 (t6b d c.length 0) (o6 g.length c.length (prefW g) (prefW c)) 4 .normal (mkFr 34 [(0, .int .u64 (addF d c))]) (mkHp 4 (o6 g.length c.length (prefW g) (prefW c)))) := by
  refine block_end (o6_fits (by simp [t6b, Bd]) rfl) ?_
  have hh : Here E1 6 [0, 0, 1, 0, 1, 1] (codeAt Tryz.f6 [0, 0, 1, 0, 1, 1]) := codeAt_here (fn := Tryz.f6) (by kernel_rfl) (by kernel_rfl)
  refine rounds_tri (T := { k : Nat // k ≤ c.length }) ⟨34, fun t => t6b (addF d (c.take t.1)) c.length t.1, fun _ => o6 g.length c.length (prefW g) (prefW c), fun _ => 4, fun t => c.length - t.1⟩ ?_ ⟨0, Nat.zero_le _⟩
  rintro ⟨k, hk⟩
  by_cases hlt : k < c.length
  · have hnd := hok c[k] (List.getElem_mem hlt)
    have hc := e6c_came (addF d (c.take k)) c[k].val g.length c.length k (prefW g) (prefW c) c[k].bs c[k].es c[k].nm c[k].x (by simp; omega) (by omega) (prefW_get hlt) (take26 _) (take27 _)
    rw [i64_succ (by omega), ← addF_take hlt] at hc
    refine on_keep hP1 (s6_ok hG hnd) hh hc ⟨k + 1, hlt⟩ (by simp [t6b]) (by simp [o6]) (by simp only; omega) (o6_fits (by simp [t6b, Bd]) rfl)
  · have hk' : k = c.length := by omega
    subst hk'
    have hc := cut_came (e6d_came (addF d (c.take c.length)) g.length c.length c.length (prefW g) (prefW c) (by simp)) (ts' := [(0, .int .u64 (addF d (c.take c.length)))]) (by simp)
    exact out_came hP1 (sm0_ok pr w0) hh hc (by simp) (by simp) (o6_fits (by simp [Bd]) rfl) ⟨rfl, by rw [List.take_length], rfl⟩
theorem lp7a {pr : Prot} {w0 : World} (hG : Tab pr w0) {g c : List Nd} (d : Int) (hl : c.length < 1099511627776) (hok : ∀ nd ∈ c, nd.ok) :
    PieceOk Tryz.prog pr w0 0 (.block 0 (.loop (codeAt Tryz.f7 [0, 0, 1, 0, 1]))) (piece 36 (t7a d 0) (o6 g.length c.length (nodesD g) (nodesD c)) 4 .normal (mkFr 36 [(0, .int .u64 (addF d c)), (1, .chan (some 1))]) (mkHp 4 (o6 g.length c.length (nodesD g) (nodesD c)))) := by
  refine block_end (o6_fits (by simp [t7a, Bd]) rfl) ?_
  have hh : Here E1 7 [0, 0, 1, 0, 1] (codeAt Tryz.f7 [0, 0, 1, 0, 1]) := codeAt_here (fn := Tryz.f7) (by kernel_rfl) (by kernel_rfl)
  refine rounds_tri (T := { k : Nat // k ≤ c.length }) ⟨36, fun t => t7a (addF d (c.take t.1)) t.1, fun _ => o6 g.length c.length (nodesD g) (nodesD c), fun _ => 4, fun t => c.length - t.1⟩ ?_ ⟨0, Nat.zero_le _⟩
  rintro ⟨k, hk⟩
  by_cases hlt : k < c.length
  · have hnd := hok c[k] (List.getElem_mem hlt)
    have hc := e7a_came (addF d (c.take k)) c[k].val g.length c.length k (nodesD g) (nodesD c) c[k].bs c[k].es c[k].nm c[k].x (by simp; omega) (by omega) (nodesD_get hlt)
    rw [i64_succ (by omega), ← addF_take hlt] at hc
    refine on_keep hP1 (s7_ok hG hnd) hh hc ⟨k + 1, hlt⟩ (by simp [t7a]) (by simp [o6]) (by simp only; omega) (o6_fits (by simp [t7a, Bd]) rfl)
  · have hk' : k = c.length := by omega
    subst hk'
    have hc := cut_came (e7b_came (addF d (c.take c.length)) g.length c.length c.length (nodesD g) (nodesD c) (by simp)) (ts' := [(0, .int .u64 (addF d (c.take c.length))), (1, .chan (some 1))]) (by simp)
    exact out_came hP1 (sm0_ok pr w0) hh hc (by simp) (by simp) (o6_fits (by simp [Bd]) rfl) ⟨rfl, by rw [List.take_length], rfl⟩
theorem lp7b {pr : Prot} {w0 : World} (hG : Tab pr w0) {g c : List Nd} (d : Int) (hl : g.length < 1099511627776) (hok : ∀ nd ∈ g, nd.ok) :
    PieceOk Tryz.prog pr w0 0 (.block 2 (.loop (codeAt Tryz.f7 [0, 0, 1, 0, 1, 1]))) (piece 36 (t7b d 0) (o6 g.length c.length (nodesD g) (nodesD c)) 4 .normal (mkFr 36 [(0, .int .u64 (subF d g))]) (mkHp 4 (o6 g.length c.length (nodesD g) (nodesD c)))) := by
  refine block_end (o6_fits (by simp [t7b, Bd]) rfl) ?_
  have hh : Here E1 7 [0, 0, 1, 0, 1, 1] (codeAt Tryz.f7 [0, 0, 1, 0, 1, 1]) := codeAt_here (fn := Tryz.f7) (by kernel_rfl) (by kernel_rfl)
  refine rounds_tri (T := { k : Nat // k ≤ g.length }) ⟨36, fun t => t7b (subF d (g.take t.1)) t.1, fun _ => o6 g.length c.length (nodesD g) (nodesD c), fun _ => 4, fun t => g.length - t.1⟩ ?_ ⟨0, Nat.zero_le _⟩
  rintro ⟨k, hk⟩
  by_cases hlt : k < g.length
  · have hnd := hok g[k] (List.getElem_mem hlt)
    have hc := e7c_came (subF d (g.take k)) g[k].val g.length c.length k (nodesD g) (nodesD c) g[k].bs g[k].es g[k].nm g[k].x (by simp; omega) (by omega) (nodesD_get hlt)
    rw [i64_succ (by omega), ← subF_take hlt] at hc
    refine on_keep hP1 (s7_ok hG hnd) hh hc ⟨k + 1, hlt⟩ (by simp [t7b]) (by simp [o6]) (by simp only; omega) (o6_fits (by simp [t7b, Bd]) rfl)
  · have hk' : k = g.length := by omega
    subst hk'
    have hc := cut_came (e7d_came (subF d (g.take g.length)) g.length c.length g.length (nodesD g) (nodesD c) (by simp)) (ts' := [(0, .int .u64 (subF d (g.take g.length)))]) (by simp)
    exact out_came hP1 (sm0_ok pr w0) hh hc (by simp) (by simp) (o6_fits (by simp [Bd]) rfl) ⟨rfl, by rw [List.take_length], rfl⟩
theorem con6 {g c : List Nd} (d : Int) (hg : g.length < 1099511627776) (hc : c.length < 1099511627776) (hgo : ∀ nd ∈ g, nd.ok) (hco : ∀ nd ∈ c, nd.ok) : ConWG Tab Tryz.prog 6 ⟨fun X => [.int .u64 d, X 0, X 1], [.d (prefW g) g.length, .d (prefW c) c.length], fun _ => .int .u64 (addF (subF d g) c), fun _ => []⟩ :=
  conW_read hP1 (fun pr w0 hG => withL_ok (withL_ok (sm0_ok pr w0) (fn := Tryz.f6) (c := .block 0 (.loop (codeAt Tryz.f6 [0, 0, 1, 0, 1]))) (by kernel_rfl) (by kernel_rfl) (lp6a hG d hg hgo)) (fn := Tryz.f6) (c := .block 2 (.loop (codeAt Tryz.f6 [0, 0, 1, 0, 1, 1]))) (by kernel_rfl) (by kernel_rfl) (lp6b hG _ hc hco)) (c6_came d _ _ g.length c.length (prefW g) (prefW c)) (by simp [limit]) ⟨rfl, rfl, by simp, by simp [BdO], by unfold limit; omega, by simp⟩ (by simp) (pure_int _ _) (by intro ι ι' f g h; simp [h 0 (by simp), h 1 (by simp)]) (by intro σ; simp [upV])
theorem con7 {g c : List Nd} (d : Int) (hg : g.length < 1099511627776) (hc : c.length < 1099511627776) (hgo : ∀ nd ∈ g, nd.ok) (hco : ∀ nd ∈ c, nd.ok) : ConWG Tab Tryz.prog 7 ⟨fun X => [.int .u64 d, X 0, X 1], [.d (nodesD g) g.length, .d (nodesD c) c.length], fun _ => .int .u64 (subF (addF d c) g), fun _ => []⟩ :=
  conW_read hP1 (fun pr w0 hG => withL_ok (withL_ok (sm0_ok pr w0) (fn := Tryz.f7) (c := .block 0 (.loop (codeAt Tryz.f7 [0, 0, 1, 0, 1]))) (by kernel_rfl) (by kernel_rfl) (lp7a hG d hc hco)) (fn := Tryz.f7) (c := .block 2 (.loop (codeAt Tryz.f7 [0, 0, 1, 0, 1, 1]))) (by kernel_rfl) (by kernel_rfl) (lp7b hG _ hg hgo)) (c7_came d _ _ g.length c.length (nodesD g) (nodesD c)) (by simp [limit]) ⟨rfl, rfl, by simp, by simp [BdO], by unfold limit; omega, by simp⟩ (by simp) (pure_int _ _) (by intro ι ι' f g h; simp [h 0 (by simp), h 1 (by simp)]) (by intro σ; simp [upV])
end Go.Abs
end
section
namespace Go.Abs
open Go.Proofs
set_option maxRecDepth 100000
def t4 (N k : Nat) : List (Nat × Value) := [(0, .chan (some 1)), (3, .int .i64 N), (4, .int .i64 k)]
def t4b (X : Int) (k j : Nat) : List (Nat × Value) := [(0, .chan (some 1)), (3, .int .i64 X), (4, .int .i64 k), (5, .int .i64 j)]
def o4 (n : Nat) (ds : List Deep) : List (Nat × AObj) := [(0, .ro ds), (1, .word n 0)]
def o4n (n k : Nat) (ds : List Deep) (bs : List Int) (es : List Ent) (nm : ByteArray) (x : Nat → Int) : List (Nat × AObj) := [(0, .rok ds (0 + Int.toNat (k : Int) * 16) (nodeV nm (.chan (some 3)) (.chan (some 5)) x)), (1, .word n 0), (2, .rov (bv bs)), (3, .word bs.length 2), (4, .rov (av es)), (5, .word es.length 4)]
theorem w4a_came (n : Nat) (N : Nat) (k : Nat) (j : Nat) (ds : List Deep) (bs : List Int) (es : List Ent) (nm : ByteArray) (s : ByteArray) (d : ByteArray) (x : Nat → Int) (h0 : 0 ≤ (↑k : Int) ∧ (↑k : Int) < (↑n : Int)) (h1 : 3 ≤ 16) (h2 : decide ((↑j : Int) < (↑(List.length es) : Int)) = true) (h3 : decide ((↑N : Int) < 16777216) = true) (h4 : 0 ≤ (↑j : Int) ∧ (↑j : Int) < (↑(List.length es) : Int)) (h5 : (av es)[0 + Int.toNat (↑j : Int) * 3 + 1]? = some (Value.string s)) (h6 : (av es)[0 + Int.toNat (↑j : Int) * 3 + 1 + 1]? = some (Value.string d)) :
    Ran (codeO Tryz.prog E1 (sm0) noRun 100 4 [0, 0, 1, 1, 0, 0, 1, 0, 0, 1, 0, 1, 1] (codeAt Tryz.f4 [0, 0, 1, 1, 0, 0, 1, 0, 0, 1, 0, 1, 1]) (mkFr 82 (t4b (↑N : Int) k j)) (mkHp 6 (o4n n k ds bs es nm x)) [.skip 3, .sym, .skip 1, .kn 2, .skip 3, .b true, .skip 1, .b true, .skip 1, .b true, .b true, .skip 3, .sym, .skip 1, .kn 2, .skip 1, .sym, .skip 2, .v (Value.string s), .skip 4, .sym, .skip 1, .kn 2, .skip 1, .sym, .skip 2, .v (Value.string d)] True) (Exit.normal) 82 [(0, Value.chan (some 1)), (3, Value.int .i64 (IntKind.wrap .i64 (IntKind.wrap .i64 ((↑N : Int) + (↑(ByteArray.size s) : Int)) + (↑(ByteArray.size d) : Int)))), (4, Value.int .i64 (↑k : Int)), (5, Value.int .i64 (IntKind.wrap .i64 ((↑j : Int) + 1)))] [(0, AObj.rok ds (0 + Int.toNat (↑k : Int) * 16) [Value.string nm, Value.chan (some 3), Value.chan (some 5), Value.int .u32 (x 0), Value.int .u32 (x 1), Value.int .u32 (x 2), Value.int .u32 (x 3), Value.int .u32 (x 4), Value.int .u32 (x 5), Value.int .i32 (x 6), Value.int .i32 (x 7), Value.int .i32 (x 8), Value.int .i64 (x 9), Value.int .i64 (x 10), Value.int .i64 (x 11), Value.int .i32 (x 12)]), (1, AObj.word n 0), (2, AObj.rov (bv bs)), (3, AObj.word (List.length bs) 2), (4, AObj.rov (av es)), (5, AObj.word (List.length es) 4)] 6 :=
  cameF_of (O := (((((((((((((((True ∧ 0 ≤ (↑k : Int) ∧ (↑k : Int) < (↑n : Int)) ∧ 0 + Int.toNat (↑k : Int) * 16 + 2 = 0 + Int.toNat (↑k : Int) * 16 + 2 ∧ 3 ≤ 16) ∧ (decide ((↑j : Int) < (↑(List.length es) : Int)) == true) = true) ∧ (decide ((↑j : Int) < (↑(List.length es) : Int)) == true) = true) ∧ decide ((↑j : Int) < (↑(List.length es) : Int)) = true) ∧ decide ((↑N : Int) < 16777216) = true) ∧ 0 ≤ (↑k : Int) ∧ (↑k : Int) < (↑n : Int)) ∧ 0 + Int.toNat (↑k : Int) * 16 + 2 = 0 + Int.toNat (↑k : Int) * 16 + 2 ∧ 3 ≤ 16) ∧ 0 ≤ (↑j : Int) ∧ (↑j : Int) < (↑(List.length es) : Int)) ∧ (av es)[0 + Int.toNat (↑j : Int) * 3 + 1]? = some (Value.string s)) ∧ 0 ≤ (↑k : Int) ∧ (↑k : Int) < (↑n : Int)) ∧ 0 + Int.toNat (↑k : Int) * 16 + 2 = 0 + Int.toNat (↑k : Int) * 16 + 2 ∧ 3 ≤ 16) ∧ 0 ≤ (↑j : Int) ∧ (↑j : Int) < (↑(List.length es) : Int)) ∧ (av es)[0 + Int.toNat (↑j : Int) * 3 + 1 + 1]? = some (Value.string d)) ∧ True ∧ True ∧ True ∧ True ∧ True ∧ True ∧ True ∧ True ∧ True ∧ True ∧ True ∧ True ∧ True ∧ True ∧ True ∧ True ∧ True ∧ True ∧ True ∧ True ∧ True ∧ True ∧ True ∧ True ∧ True ∧ True ∧ True)) (by kernel_rfl) ⟨⟨⟨⟨⟨⟨⟨⟨⟨⟨⟨⟨⟨⟨⟨trivial, h0⟩, ⟨rfl, h1⟩⟩, gd h2 rfl⟩, gd h2 rfl⟩, h2⟩, h3⟩, h0⟩, ⟨rfl, h1⟩⟩, h4⟩, h5⟩, h0⟩, ⟨rfl, h1⟩⟩, h4⟩, h6⟩, ⟨trivial, ⟨trivial, ⟨trivial, ⟨trivial, ⟨trivial, ⟨trivial, ⟨trivial, ⟨trivial, ⟨trivial, ⟨trivial, ⟨trivial, ⟨trivial, ⟨trivial, ⟨trivial, ⟨trivial, ⟨trivial, ⟨trivial, ⟨trivial, ⟨trivial, ⟨trivial, ⟨trivial, ⟨trivial, ⟨trivial, ⟨trivial, ⟨trivial, ⟨trivial, trivial⟩⟩⟩⟩⟩⟩⟩⟩⟩⟩⟩⟩⟩⟩⟩⟩⟩⟩⟩⟩⟩⟩⟩⟩⟩⟩⟩
theorem w4b_came (n : Nat) (N : Nat) (k : Nat) (j : Nat) (ds : List Deep) (bs : List Int) (es : List Ent) (nm : ByteArray) (x : Nat → Int) (h0 : 0 ≤ (↑k : Int) ∧ (↑k : Int) < (↑n : Int)) (h1 : 3 ≤ 16) (h2 : decide ((↑j : Int) < (↑(List.length es) : Int)) = false) :
    Ran (codeO Tryz.prog E1 (sm0) noRun 100 4 [0, 0, 1, 1, 0, 0, 1, 0, 0, 1, 0, 1, 1] (codeAt Tryz.f4 [0, 0, 1, 1, 0, 0, 1, 0, 0, 1, 0, 1, 1]) (mkFr 82 (t4b (↑N : Int) k j)) (mkHp 6 (o4n n k ds bs es nm x)) [.skip 3, .sym, .skip 1, .kn 2, .skip 3, .b false, .b false, .b false] True) (Exit.exit 2) 82 [(0, Value.chan (some 1)), (3, Value.int .i64 (↑N : Int)), (4, Value.int .i64 (↑k : Int)), (5, Value.int .i64 (↑j : Int))] [(0, AObj.rok ds (0 + Int.toNat (↑k : Int) * 16) [Value.string nm, Value.chan (some 3), Value.chan (some 5), Value.int .u32 (x 0), Value.int .u32 (x 1), Value.int .u32 (x 2), Value.int .u32 (x 3), Value.int .u32 (x 4), Value.int .u32 (x 5), Value.int .i32 (x 6), Value.int .i32 (x 7), Value.int .i32 (x 8), Value.int .i64 (x 9), Value.int .i64 (x 10), Value.int .i64 (x 11), Value.int .i32 (x 12)]), (1, AObj.word n 0), (2, AObj.rov (bv bs)), (3, AObj.word (List.length bs) 2), (4, AObj.rov (av es)), (5, AObj.word (List.length es) 4)] 6 :=
  cameF_of (O := (((((True ∧ 0 ≤ (↑k : Int) ∧ (↑k : Int) < (↑n : Int)) ∧ 0 + Int.toNat (↑k : Int) * 16 + 2 = 0 + Int.toNat (↑k : Int) * 16 + 2 ∧ 3 ≤ 16) ∧ (decide ((↑j : Int) < (↑(List.length es) : Int)) == true) = false) ∧ (decide ((↑j : Int) < (↑(List.length es) : Int)) == true) = false) ∧ decide ((↑j : Int) < (↑(List.length es) : Int)) = false)) (by kernel_rfl) ⟨⟨⟨⟨⟨trivial, h0⟩, ⟨rfl, h1⟩⟩, gd h2 rfl⟩, gd h2 rfl⟩, h2⟩
theorem w4c_came (n : Nat) (N : Nat) (k : Nat) (j : Nat) (ds : List Deep) (bs : List Int) (es : List Ent) (nm : ByteArray) (x : Nat → Int) (h0 : 0 ≤ (↑k : Int) ∧ (↑k : Int) < (↑n : Int)) (h1 : 3 ≤ 16) (h2 : decide ((↑j : Int) < (↑(List.length es) : Int)) = true) (h3 : decide ((↑N : Int) < 16777216) = false) :
    Ran (codeO Tryz.prog E1 (sm0) noRun 100 4 [0, 0, 1, 1, 0, 0, 1, 0, 0, 1, 0, 1, 1] (codeAt Tryz.f4 [0, 0, 1, 1, 0, 0, 1, 0, 0, 1, 0, 1, 1]) (mkFr 82 (t4b (↑N : Int) k j)) (mkHp 6 (o4n n k ds bs es nm x)) [.skip 3, .sym, .skip 1, .kn 2, .skip 3, .b true, .skip 1, .b true, .skip 1, .b true, .b false] True) (Exit.exit 2) 82 [(0, Value.chan (some 1)), (3, Value.int .i64 (↑N : Int)), (4, Value.int .i64 (↑k : Int)), (5, Value.int .i64 (↑j : Int))] [(0, AObj.rok ds (0 + Int.toNat (↑k : Int) * 16) [Value.string nm, Value.chan (some 3), Value.chan (some 5), Value.int .u32 (x 0), Value.int .u32 (x 1), Value.int .u32 (x 2), Value.int .u32 (x 3), Value.int .u32 (x 4), Value.int .u32 (x 5), Value.int .i32 (x 6), Value.int .i32 (x 7), Value.int .i32 (x 8), Value.int .i64 (x 9), Value.int .i64 (x 10), Value.int .i64 (x 11), Value.int .i32 (x 12)]), (1, AObj.word n 0), (2, AObj.rov (bv bs)), (3, AObj.word (List.length bs) 2), (4, AObj.rov (av es)), (5, AObj.word (List.length es) 4)] 6 :=
  cameF_of (O := ((((((True ∧ 0 ≤ (↑k : Int) ∧ (↑k : Int) < (↑n : Int)) ∧ 0 + Int.toNat (↑k : Int) * 16 + 2 = 0 + Int.toNat (↑k : Int) * 16 + 2 ∧ 3 ≤ 16) ∧ (decide ((↑j : Int) < (↑(List.length es) : Int)) == true) = true) ∧ (decide ((↑j : Int) < (↑(List.length es) : Int)) == true) = true) ∧ decide ((↑j : Int) < (↑(List.length es) : Int)) = true) ∧ decide ((↑N : Int) < 16777216) = false)) (by kernel_rfl) ⟨⟨⟨⟨⟨⟨trivial, h0⟩, ⟨rfl, h1⟩⟩, gd h2 rfl⟩, gd h2 rfl⟩, h2⟩, h3⟩
def N1 (N : Nat) (nm : ByteArray) (bs : List Int) (es : List Ent) : Int := IntKind.wrap .i64 (IntKind.wrap .i64 (IntKind.wrap .i64 ((N : Int) + (nm.size : Int)) + (bs.length : Int)) + IntKind.wrap .i64 (8 * (es.length : Int)))
noncomputable def s4 (n N M k : Nat) (ds : List Deep) (bs : List Int) (es : List Ent) (nm : ByteArray) (x : Nat → Int) : Sm := withL sm0 4 [1, 1, 0, 0, 1, 0, 0, 1, 0, 1, 1] (piece 82 (t4b (N1 N nm bs es) k 0) (o4n n k ds bs es nm x) 6 .normal (mkFr 82 (t4 M k)) (mkHp 6 (o4n n k ds bs es nm x)))
theorem w4d_came (n : Nat) (N : Nat) (M : Nat) (k : Nat) (ds : List Deep) (bs : List Int) (es : List Ent) (nm : ByteArray) (x : Nat → Int) (h0 : decide ((↑k : Int) < (↑n : Int)) = true) (h1 : decide ((↑N : Int) < 16777216) = true) (h2 : List.take 16 (List.drop (0 + Int.toNat (↑k : Int) * 16) ds) = nodeD nm bs es x) (h3 : 0 ≤ (↑k : Int) ∧ (↑k : Int) < (↑n : Int)) (h4 : 0 + Int.toNat (↑k : Int) * 16 = 0 + Int.toNat (↑k : Int) * 16 + 0 ∧ 1 ≤ 16) (h5 : 2 ≤ 16) (h6 : 3 ≤ 16) :
    Ran (codeO Tryz.prog E1 (s4 n N M k ds bs es nm x) noRun 100 4 [0, 0, 1, 0, 1, 1] (codeAt Tryz.f4 [0, 0, 1, 0, 1, 1]) (mkFr 82 (t4 N k)) (mkHp 2 (o4 n ds)) [.skip 5, .b true, .skip 1, .b true, .skip 1, .b true, .b true, .nm 0 (0 + Int.toNat (↑k : Int) * 16) (nodeD nm bs es x), .dp [], .skip 3, .sym, .skip 1, .kn 0, .skip 4, .sym, .skip 1, .kn 1, .skip 4, .sym, .skip 1, .kn 2, .skip 5, .frz 0] True) (Exit.normal) 82 [(0, Value.chan (some 1)), (3, Value.int .i64 (↑M : Int)), (4, Value.int .i64 (IntKind.wrap .i64 ((↑k : Int) + 1)))] [(0, AObj.ro ds), (1, AObj.word n 0), (2, AObj.rov (bv bs)), (3, AObj.word (List.length bs) 2), (4, AObj.rov (av es)), (5, AObj.word (List.length es) 4)] 6 :=
  cameF_of (O := ((((((((((((True ∧ (decide ((↑k : Int) < (↑n : Int)) == true) = true) ∧ (decide ((↑k : Int) < (↑n : Int)) == true) = true) ∧ decide ((↑k : Int) < (↑n : Int)) = true) ∧ decide ((↑N : Int) < 16777216) = true) ∧ List.take 16 (List.drop (0 + Int.toNat (↑k : Int) * 16) ds) = nodeD nm bs es x) ∧ 0 ≤ (↑k : Int) ∧ (↑k : Int) < (↑n : Int)) ∧ 0 + Int.toNat (↑k : Int) * 16 = 0 + Int.toNat (↑k : Int) * 16 + 0 ∧ 1 ≤ 16) ∧ 0 ≤ (↑k : Int) ∧ (↑k : Int) < (↑n : Int)) ∧ 0 + Int.toNat (↑k : Int) * 16 + 1 = 0 + Int.toNat (↑k : Int) * 16 + 1 ∧ 2 ≤ 16) ∧ 0 ≤ (↑k : Int) ∧ (↑k : Int) < (↑n : Int)) ∧ 0 + Int.toNat (↑k : Int) * 16 + 2 = 0 + Int.toNat (↑k : Int) * 16 + 2 ∧ 3 ≤ 16) ∧ SelfP 82 (t4b (N1 N nm bs es) k 0) (o4n n k ds bs es nm x) 6)) (by kernel_rfl) ⟨⟨⟨⟨⟨⟨⟨⟨⟨⟨⟨⟨trivial, gd h0 rfl⟩, gd h0 rfl⟩, h0⟩, h1⟩, h2⟩, h3⟩, h4⟩, h3⟩, ⟨rfl, h5⟩⟩, h3⟩, ⟨rfl, h6⟩⟩, selfP_true _ _ _ _⟩
theorem w4e_came (n : Nat) (N : Nat) (k : Nat) (ds : List Deep) (h0 : decide ((↑k : Int) < (↑n : Int)) = false) :
    Ran (codeO Tryz.prog E1 (sm0) noRun 100 4 [0, 0, 1, 0, 1, 1] (codeAt Tryz.f4 [0, 0, 1, 0, 1, 1]) (mkFr 82 (t4 N k)) (mkHp 2 (o4 n ds)) [.skip 5, .b false, .b false, .b false] True) (Exit.exit 0) 82 [(0, Value.chan (some 1)), (3, Value.int .i64 (↑N : Int)), (4, Value.int .i64 (↑k : Int))] [(0, AObj.ro ds), (1, AObj.word n 0)] 2 :=
  cameF_of (O := (((True ∧ (decide ((↑k : Int) < (↑n : Int)) == true) = false) ∧ (decide ((↑k : Int) < (↑n : Int)) == true) = false) ∧ decide ((↑k : Int) < (↑n : Int)) = false)) (by kernel_rfl) ⟨⟨⟨trivial, gd h0 rfl⟩, gd h0 rfl⟩, h0⟩
theorem w4f_came (n : Nat) (N : Nat) (k : Nat) (ds : List Deep) (h0 : decide ((↑k : Int) < (↑n : Int)) = true) (h1 : decide ((↑N : Int) < 16777216) = false) :
    Ran (codeO Tryz.prog E1 (sm0) noRun 100 4 [0, 0, 1, 0, 1, 1] (codeAt Tryz.f4 [0, 0, 1, 0, 1, 1]) (mkFr 82 (t4 N k)) (mkHp 2 (o4 n ds)) [.skip 5, .b true, .skip 1, .b true, .skip 1, .b true, .b false] True) (Exit.exit 0) 82 [(0, Value.chan (some 1)), (3, Value.int .i64 (↑N : Int)), (4, Value.int .i64 (↑k : Int))] [(0, AObj.ro ds), (1, AObj.word n 0)] 2 :=
  cameF_of (O := ((((True ∧ (decide ((↑k : Int) < (↑n : Int)) == true) = true) ∧ (decide ((↑k : Int) < (↑n : Int)) == true) = true) ∧ decide ((↑k : Int) < (↑n : Int)) = true) ∧ decide ((↑N : Int) < 16777216) = false)) (by kernel_rfl) ⟨⟨⟨⟨trivial, gd h0 rfl⟩, gd h0 rfl⟩, h0⟩, h1⟩
noncomputable def q4 (n M : Nat) (ds : List Deep) : Sm := withL sm0 4 [1, 0, 1, 1] (piece 82 (t4 n 0) (o4 n ds) 2 .normal (mkFr 82 [(3, .int .i64 M)]) (mkHp 2 (o4 n ds)))
theorem c4_came (n : Nat) (M : Nat) (ds : List Deep)  :
    RanC (runO Tryz.prog E1 (q4 n M ds) noRun 100 4 [Value.chan (some 1)] (mkHp 2 (wordsOs [Wd.d ds n] 0 fun n => n)) [] True) (.returned (Value.bool (decide ((↑M : Int) ≥ 16777216)))) [(0, AObj.ro ds), (1, AObj.word n 0)] 2 :=
  cameCF_of (O := (True ∧ SelfP 82 (t4 n 0) (o4 n ds) 2)) (by kernel_rfl) ⟨trivial, selfP_true _ _ _ _⟩
def inW : Nat → List Ent → Nat
  | N, [] => N
  | N, e :: r => if N < 16777216 then inW (N + e.2.1.size + e.2.2.size) r else N
def Nd.w0 (nd : Nd) : Nat := nd.nm.size + nd.bs.length + 8 * nd.es.length
def outW : Nat → List Nd → Nat
  | N, [] => N
  | N, nd :: r => if N < 16777216 then outW (inW (N + nd.w0) nd.es) r else N
def wideB (l : List Nd) : Bool := decide (16777216 ≤ outW l.length l)
structure Nd.big (nd : Nd) : Prop where
  nm : nd.nm.size ≤ 1125899906842624
  bs : nd.bs.length ≤ 1125899906842624
  es : nd.es.length ≤ 1125899906842624
  e : ∀ a ∈ nd.es, a.2.1.size ≤ 1125899906842624 ∧ a.2.2.size ≤ 1125899906842624
theorem inW_le : ∀ (es : List Ent) (N : Nat), (∀ a ∈ es, a.2.1.size ≤ 1125899906842624 ∧ a.2.2.size ≤ 1125899906842624) → N ≤ 18014398509481984 → inW N es ≤ 18014398509481984
  | [], N, _, h => h
  | e :: r, N, ha, h => by
    unfold inW
    split
    · have := ha e (List.mem_cons_self ..)
      exact inW_le r _ (fun a h => ha a (List.mem_cons_of_mem _ h)) (by omega)
    · exact h
theorem inW_all (es : List Ent) : ∀ (N : Nat), (inW N es < 16777216) → inW N es = N + (es.map fun a => a.2.1.size + a.2.2.size).sum := by
  induction es with
  | nil => intro N _; simp [inW]
  | cons e r ih =>
    intro N h
    unfold inW at h ⊢
    split at h
    · rename_i hN
      rw [if_pos hN, ih _ h]
      simp
      omega
    · omega
theorem inW_drop (es : List Ent) (N j : Nat) (hj : j < es.length) (hN : N < 16777216) : inW N (es.drop j) = inW (N + es[j].2.1.size + es[j].2.2.size) (es.drop (j + 1)) := by
  rw [List.drop_eq_getElem_cons hj, inW, if_pos hN]
theorem outW_drop (l : List Nd) (N j : Nat) (hj : j < l.length) (hN : N < 16777216) : outW N (l.drop j) = outW (inW (N + l[j].w0) l[j].es) (l.drop (j + 1)) := by
  rw [List.drop_eq_getElem_cons hj, outW, if_pos hN]
theorem inW_stop {es : List Ent} {N : Nat} (h : es = [] ∨ ¬ N < 16777216) : inW N es = N := by
  rcases h with rfl | h
  · rfl
  · cases es with
    | nil => rfl
    | cons a r => rw [inW, if_neg h]
theorem outW_stop {l : List Nd} {N : Nat} (h : l = [] ∨ ¬ N < 16777216) : outW N l = N := by
  rcases h with rfl | h
  · rfl
  · cases l with
    | nil => rfl
    | cons a r => rw [outW, if_neg h]
theorem av_str1 {es : List Ent} {j : Nat} (h : j < es.length) : (av es)[0 + Int.toNat (j : Int) * 3 + 1]? = some (.string es[j].2.1) := by
  rw [Nat.zero_add, Int.toNat_natCast, av, rows_get (s := 3) (fun _ _ => rfl) h (by omega), List.getD_eq_getElem?_getD, List.getElem?_eq_getElem h]; rfl
theorem av_str2 {es : List Ent} {j : Nat} (h : j < es.length) : (av es)[0 + Int.toNat (j : Int) * 3 + 1 + 1]? = some (.string es[j].2.2) := by
  rw [Nat.zero_add, Int.toNat_natCast, Nat.add_assoc, av, rows_get (s := 3) (fun _ _ => rfl) h (by omega), List.getD_eq_getElem?_getD, List.getElem?_eq_getElem h]; rfl
theorem o4n_bd (n k : Nat) (ds : List Deep) (bs : List Int) (es : List Ent) (nm : ByteArray) (x : Nat → Int) : ∀ p ∈ o4n n k ds bs es nm x, p.1 < 6 ∧ BdO 6 p.2 := by
  intro p hp
  simp only [o4n, List.mem_cons, List.not_mem_nil, or_false] at hp
  rcases hp with rfl | rfl | rfl | rfl | rfl | rfl <;> simp [BdO, nodeV]
theorem inner4 {pr : Prot} {w0 : World} (n k N : Nat) (ds : List Deep) (bs : List Int) (es : List Ent) (nm : ByteArray) (x : Nat → Int) (hkn : k < n) (he : ∀ a ∈ es, a.2.1.size ≤ 1125899906842624 ∧ a.2.2.size ≤ 1125899906842624) (hel : es.length ≤ 1125899906842624) (hN : N ≤ 18014398509481984) :
    Tri Tryz.prog pr w0 6 (.loop (codeAt Tryz.f4 [0, 0, 1, 1, 0, 0, 1, 0, 0, 1, 0, 1, 1])) (mkFr 82 (t4b N k 0)) (mkHp 6 (o4n n k ds bs es nm x)) fun e f μ => e = .exit 2 ∧ f = mkFr 82 (t4 (inW N es) k) ∧ μ = mkHp 6 (o4n n k ds bs es nm x) := by
  have hF : ∀ ts, (∀ p ∈ ts, Bd 6 p.2) → smallN ts = true → Fits 6 ts (o4n n k ds bs es nm x) 6 := fun ts h1 h2 => ⟨h2, rfl, h1, o4n_bd _ _ _ _ _ _ _, by decide, by decide⟩
  have hh : Here E1 4 [0, 0, 1, 1, 0, 0, 1, 0, 0, 1, 0, 1, 1] (codeAt Tryz.f4 [0, 0, 1, 1, 0, 0, 1, 0, 0, 1, 0, 1, 1]) := codeAt_here (fn := Tryz.f4) (by kernel_rfl) (by kernel_rfl)
  have key := rounds_tri (P := Tryz.prog) (pr := pr) (w0 := w0) (N := 6) (c := codeAt Tryz.f4 [0, 0, 1, 1, 0, 0, 1, 0, 0, 1, 0, 1, 1]) (Ψ := fun e f μ => e = .exit 2 ∧ f = mkFr 82 (t4 (inW N es) k) ∧ μ = mkHp 6 (o4n n k ds bs es nm x)) (T := { p : Nat × Nat // p.1 ≤ es.length ∧ p.2 ≤ 18014398509481984 ∧ inW p.2 (es.drop p.1) = inW N es }) ⟨82, fun t => t4b t.1.2 k t.1.1, fun _ => o4n n k ds bs es nm x, fun _ => 6, fun t => es.length - t.1.1⟩ ?_ ⟨(0, N), Nat.zero_le _, hN, rfl⟩
  · exact key
  rintro ⟨⟨j, M⟩, hj, hM, hinv⟩
  simp only at hj hM hinv
  have hkk : 0 ≤ (k : Int) ∧ (k : Int) < (n : Int) := by omega
  by_cases hlt : j < es.length
  · by_cases hMl : M < 16777216
    · have hb := he es[j] (List.getElem_mem hlt)
      have hc := w4a_came n M k j ds bs es nm es[j].2.1 es[j].2.2 x hkk (by decide) (by simp; omega) (by simp; omega) (by omega) (av_str1 hlt) (av_str2 hlt)
      have h1 : IntKind.wrap .i64 (IntKind.wrap .i64 ((M : Int) + (es[j].2.1.size : Int)) + (es[j].2.2.size : Int)) = ((M + es[j].2.1.size + es[j].2.2.size : Nat) : Int) := by
        rw [i64_small (n := (M : Int) + _) (by omega) (by omega), i64_small (by omega) (by omega)]; omega
      rw [i64_succ (by omega), h1] at hc
      exact on_came hP1 (sm0_ok pr w0) hh hc ⟨(j + 1, M + es[j].2.1.size + es[j].2.2.size), hlt, by simp only; omega, by simp only; rw [← hinv, inW_drop es M j hlt hMl]⟩ rfl rfl rfl (by simp only; omega) (hF _ (by simp [t4b]) rfl)
    · have hc := cut_came (w4c_came n M k j ds bs es nm x hkk (by decide) (by simp; omega) (by simp; omega)) (ts' := t4 M k) (by simp [t4])
      refine out_came hP1 (sm0_ok pr w0) hh hc (by simp) (by simp) (hF _ (by simp [t4]) rfl) ⟨rfl, ?_, rfl⟩
      rw [← hinv, inW_stop (.inr hMl)]
  · have hc := cut_came (w4b_came n M k j ds bs es nm x hkk (by decide) (by simp; omega)) (ts' := t4 M k) (by simp [t4])
    refine out_came hP1 (sm0_ok pr w0) hh hc (by simp) (by simp) (hF _ (by simp [t4]) rfl) ⟨rfl, ?_, rfl⟩
    rw [← hinv, inW_stop (.inl (List.drop_eq_nil_of_le (by omega)))]
def K4 (l : List Nd) : ConW := ⟨fun X => [X 0], [.d (nodesD l) l.length], fun _ => .bool (wideB l), fun _ => []⟩
theorem con4 {l : List Nd} (hl : l.length ≤ 1125899906842624) (hs : ∀ nd ∈ l, nd.big) : ConWG Tab Tryz.prog 4 (K4 l) := by
  have hF : ∀ ts, (∀ p ∈ ts, Bd 2 p.2) → smallN ts = true → Fits 2 ts (o4 l.length (nodesD l)) 2 := fun ts h1 h2 => ⟨h2, rfl, h1, by simp [o4, BdO], by decide, by decide⟩
  have hdec : decide ((outW l.length l : Int) ≥ 16777216) = wideB l := by
    unfold wideB
    by_cases h : 16777216 ≤ outW l.length l
    · rw [decide_eq_true h]; exact decide_eq_true (by omega)
    · rw [decide_eq_false h]; exact decide_eq_false (by omega)
  have hc4 := c4_came l.length (outW l.length l) (nodesD l)
  rw [hdec] at hc4
  refine conW_read hP1 (s := q4 l.length (outW l.length l) (nodesD l)) (fun pr w0 hG => withL_ok (sm0_ok pr w0) (fn := Tryz.f4) (c := .block 0 (.loop (codeAt Tryz.f4 [0, 0, 1, 0, 1, 1]))) (by kernel_rfl) (by kernel_rfl) (block_end (hF _ (by simp [t4]) rfl) ?_)) hc4 (by simp [limit]) (hF _ (by simp) rfl) (by simp) (pure_bool _) (by intro ι ι' f g h; simp [h 0 (by simp)]) (by intro σ; simp [upV])
  have hh : Here E1 4 [0, 0, 1, 0, 1, 1] (codeAt Tryz.f4 [0, 0, 1, 0, 1, 1]) := codeAt_here (fn := Tryz.f4) (by kernel_rfl) (by kernel_rfl)
  refine rounds_tri (T := { p : Nat × Nat // p.1 ≤ l.length ∧ p.2 ≤ 18014398509481984 ∧ outW p.2 (l.drop p.1) = outW l.length l }) ⟨82, fun t => t4 t.1.2 t.1.1, fun _ => o4 l.length (nodesD l), fun _ => 2, fun t => l.length - t.1.1⟩ ?_ ⟨(0, l.length), Nat.zero_le _, by simp only; omega, rfl⟩
  rintro ⟨⟨k, N⟩, hk, hN, hinv⟩
  simp only at hk hN hinv
  by_cases hlt : k < l.length
  · by_cases hNl : N < 16777216
    · have hb := hs l[k] (List.getElem_mem hlt)
      have h1 := hb.nm
      have h2 := hb.bs
      have h3 := hb.es
      have hN1 : N1 N l[k].nm l[k].bs l[k].es = ((N + l[k].w0 : Nat) : Int) := by
        unfold N1 Nd.w0
        rw [i64_small (n := (N : Int) + _) (by omega) (by omega), i64_small (n := (N : Int) + _ + _) (by omega) (by omega), i64_small (n := 8 * _) (by omega) (by omega), i64_small (by omega) (by omega)]
        omega
      have hw0 : N + l[k].w0 ≤ 18014398509481984 := by unfold Nd.w0; omega
      have hle := inW_le l[k].es (N + l[k].w0) hb.e hw0
      have hc := w4d_came l.length N (inW (N + l[k].w0) l[k].es) k (nodesD l) l[k].bs l[k].es l[k].nm l[k].x (by simp; omega) (by simp; omega) (nodesD_get hlt) (by omega) ⟨rfl, by decide⟩ (by decide) (by decide)
      rw [i64_succ (by omega)] at hc
      refine on_keep hP1 (withL_ok (sm0_ok pr w0) (fn := Tryz.f4) (c := .block 2 (.loop (codeAt Tryz.f4 [0, 0, 1, 1, 0, 0, 1, 0, 0, 1, 0, 1, 1]))) (by kernel_rfl) (by kernel_rfl) (block_end ⟨rfl, rfl, by simp [t4b], o4n_bd _ _ _ _ _ _ _, by decide, by decide⟩ ?_)) hh hc ⟨(k + 1, inW (N + l[k].w0) l[k].es), hlt, hle, by simp only; rw [← hinv, outW_drop l N k hlt hNl]⟩ (by simp [t4]) (by simp [o4]) (by simp only; omega) (hF _ (by simp [t4]) rfl)
      rw [hN1]
      exact inner4 l.length k (N + l[k].w0) (nodesD l) l[k].bs l[k].es l[k].nm l[k].x hlt hb.e h3 hw0
    · have hc := cut_came (w4f_came l.length N k (nodesD l) (by simp; omega) (by simp; omega)) (ts' := [(3, .int .i64 N)]) (by simp)
      refine out_came hP1 (sm0_ok pr w0) hh hc (by simp) (by simp) (hF _ (by simp) rfl) ⟨rfl, ?_, rfl⟩
      rw [← hinv, outW_stop (.inr hNl)]
  · have hc := cut_came (w4e_came l.length N k (nodesD l) (by simp; omega)) (ts' := [(3, .int .i64 N)]) (by simp)
    refine out_came hP1 (sm0_ok pr w0) hh hc (by simp) (by simp) (hF _ (by simp) rfl) ⟨rfl, ?_, rfl⟩
    rw [← hinv, outW_stop (.inl (List.drop_eq_nil_of_le (by omega)))]
end Go.Abs
end
section
namespace Go.Abs
open Go.Proofs
set_option maxRecDepth 100000
theorem callsW {G : Prot → World → Prop} {P : Program} {f : Nat} {c : ConW} {w : World} (hG : G Prot.all w) (hc : ConWG G P f c) (hv : Pure (c.v fun n => n)) (U : Nat → Value) {as' : Array Value}
    (hU : ∀ (i : Nat) (h : i < c.ws.length), wordF { loc := fun _ => (0, 0), ext := fun _ => 0, fz := fun b => b < w.heap.size, wb := w } (U i) c.ws[i])
    (ha : ∀ ι : Ren, (∀ i, i < c.ws.length → conc ι (.chan (some (2 * i + 1))) = U i) → ((c.args fun i => .chan (some (2 * i + 1))).map (conc ι)).toArray = as') :
    Calls P f as' w fun e w' => e = .returned (c.v fun n => n) ∧ RowKit.Below w.heap.size w w' := by
  obtain ⟨μ1, hadd, hn1⟩ := addW_lim c.ws (μ := μ0) (by have := hc.lim; simpa [μ0] using this)
  obtain ⟨ι1, hx1, hS1, hn, hold, hobj⟩ := addW_ok c.ws (U := U) (sim0_in w) hadd hU
  obtain ⟨μL', hL, _, _⟩ := hc.run
  have h0 : μ0.next = 0 := rfl
  simp only [h0, Nat.zero_add] at hn hobj
  have hgetL : ∀ n o, (mkHp (2 * c.ws.length) (wordsOs c.ws 0 fun n => n)).get n = some o → ∃ i, ∃ (h : i < c.ws.length), (n = 2 * i ∧ o = c.ws[i].obj) ∨ (n = 2 * i + 1 ∧ o = .word c.ws[i].len (2 * i)) := by
    intro n o hg
    simp only [Hp.get, mkHp, mkT_get _ n (wordsOs_small hc.lim)] at hg
    obtain ⟨i, hi, h | h⟩ := wordsOs_mem (look_mem _ n o hg)
    · simp only [Nat.zero_add, Prod.mk.injEq] at h; exact ⟨i, hi, .inl h⟩
    · simp only [Nat.zero_add, Prod.mk.injEq] at h; exact ⟨i, hi, .inr h⟩
  have hk : Keeps (fun n => n) μ1 (mkHp (2 * c.ws.length) (wordsOs c.ws 0 fun n => n)) := by
    refine ⟨fun n o hg => ?_, fun n o hg => ?_, fun n o hg => ?_, fun n m o o' hg hg' _ _ hne => hne, hc.lim⟩
    · obtain ⟨i, hi, ⟨rfl, _⟩ | ⟨rfl, _⟩⟩ := hgetL n o hg <;> simp only [mkHp] <;> omega
    · rw [upO_id]
      obtain ⟨i, hi, ⟨rfl, rfl⟩ | ⟨rfl, rfl⟩⟩ := hgetL n o hg
      · exact (hobj i hi).1
      · exact (hobj i hi).2.1
    · obtain ⟨i, hi, ⟨rfl, rfl⟩ | ⟨rfl, rfl⟩⟩ := hgetL n o hg
      · cases c.ws[i] <;> trivial
      · simp only [BdO, mkHp]; omega
  have hSL := hS1.keeps hk
  have key := hL Prot.all w hG (ι1.via fun n => n) w hSL
  rw [ha (ι1.via fun n => n) (fun i hi => (hobj i hi).2.2)] at key
  refine key.mono ?_
  rintro e w' ⟨ι', _, _, hS', he⟩
  refine ⟨?_, hS'.below⟩
  cases e with
  | returned v' => obtain ⟨h1, _⟩ := he; rw [h1, (hv ι').1]
  | _ => exact he.elim
def entsOf : List Value → Option (List Ent)
  | [] => some []
  | .int .i8 p :: .string s :: .string d :: r => (entsOf r).map fun l => (p, s, d) :: l
  | _ => none
theorem av_flat (es : List Ent) : av es = es.flatMap cellA := by
  have key : ∀ (es : List Ent) (n : Nat), n ≤ es.length → rows (fun j => cellA (es.getD j (0, ⟨#[]⟩, ⟨#[]⟩))) n = (es.take n).flatMap cellA := by
    intro es n
    induction n with
    | zero => intro _; simp [rows]
    | succ n ih =>
      intro h
      rw [rows_succ, ih (by omega), List.take_add_one, List.getElem?_eq_getElem (by omega), List.flatMap_append, List.getD_eq_getElem?_getD, List.getElem?_eq_getElem (by omega)]
      simp
  rw [av, key es es.length (Nat.le_refl _), List.take_length]
theorem entsOf_ok : ∀ {vs : List Value} {es : List Ent}, entsOf vs = some es → av es = vs
  | [], es, h => by simp [entsOf] at h; subst h; rfl
  | .int .i8 p :: .string s :: .string d :: r, es, h => by
    simp only [entsOf, Option.map_eq_some_iff] at h
    obtain ⟨l, hl, rfl⟩ := h
    have := entsOf_ok hl
    rw [av_flat] at this ⊢
    simp [cellA, this]
  | .int .i8 p :: .string s :: [], es, h => by simp [entsOf] at h
  | .int .i8 p :: [], es, h => by simp [entsOf] at h
  | v :: r, es, h => by
    unfold entsOf at h
    split at h
    · simp_all
    · simp only [Option.map_eq_some_iff] at h
      obtain ⟨l, hl, rfl⟩ := h
      have := entsOf_ok hl
      rw [av_flat] at this ⊢
      simp_all [cellA]
    · cases h
def cellsAt (μ : Hp) (s : Nat) : Value → Option (List Value × Nat)
  | .slice none 0 0 => some ([], 0)
  | .slice (some a) l _ => match a.spot, μ.cells a.block with
    | none, some vs => bif Nat.beq ((vs.drop a.off).take (l * s)).length (l * s) then some ((vs.drop a.off).take (l * s), l) else none
    | _, _ => none
  | _ => none
theorem cellsAt_ok {pr : Prot} {w0 w : World} {ng s : Nat} {ι : Ren} {μ : Hp} (hS : Sim pr w0 ng ι μ w) {x : Value} {vs : List Value} {n : Nat} (h : cellsAt μ s x = some (vs, n)) (hp : vs.all atom = true) :
    wordF { loc := fun _ => (0, 0), ext := fun _ => 0, fz := fun b => b < w.heap.size, wb := w } (conc ι x) (.v vs n) ∧ vs.length = n * s := by
  unfold cellsAt at h
  split at h
  · cases h
    exact ⟨⟨none, 0, by simp [Wd.len], (0, 0), .inl rfl, fun i u hu => by simp at hu⟩, by simp⟩
  · rename_i a l c
    split at h
    · rename_i us hsp hc
      cases hb : Nat.beq ((us.drop a.off).take (l * s)).length (l * s) with
      | false => rw [hb] at h; cases h
      | true =>
        rw [hb, cond_true] at h
        cases h
        obtain ⟨ab, ao, asp⟩ := a
        simp only at hsp hc hb hp ⊢
        subst hsp
        refine ⟨⟨_, _, conc_slice ι _ _ _, ((ι.loc ab).1, (ι.loc ab).2 + ao), .inr rfl, fun i u hu => ?_⟩, beq_yes hb⟩
        have hmem := List.mem_of_getElem? hu
        rw [List.getElem?_take] at hu
        split at hu
        · rw [List.getElem?_drop] at hu
          have hcell := (hS.cell hc hu).1
          have hpu := atom_pure (List.all_eq_true.1 hp u hmem)
          rw [(hpu ι).1, ← Nat.add_assoc] at hcell
          have hlt := Go.block_lt_of_cell hcell
          exact ⟨hlt, hlt, hcell, hpu⟩
        · cases hu
    · cases h
  · cases h
def xsOf (l : List Value) : Nat → Int := fun i => asI (l.getD i undef)
def inR (lo hi i : Int) : Bool := decide (lo ≤ i) && decide (i ≤ hi)
def nodeSum : List Value → Hp → Option (Ending × Hp) := fun args μ => match args with
  | [.agg ⟨[.string nm, d, a, .int .u32 x0, .int .u32 x1, .int .u32 x2, .int .u32 x3, .int .u32 x4, .int .u32 x5, .int .i32 x6, .int .i32 x7, .int .i32 x8, .int .i64 x9, .int .i64 x10, .int .i64 x11, .int .i32 x12]⟩] =>
    match cellsAt μ 1 d, cellsAt μ 3 a with
    | some (vs, n), some (us, m) => match entsOf us with
      | some es => bif vs.all isB && Nat.beq m es.length && us.all atom && es.all (fun e => inR (-128) 127 e.1) && inR (-2147483648) 2147483647 x6 && inR (-2147483648) 2147483647 x7 && inR (-2147483648) 2147483647 x8 && inR (-9223372036854775808) 9223372036854775807 x9 && inR (-2147483648) 2147483647 x12 && Nat.ble (nm.size + n + (aB es).length) 1000000 && Nat.ble m 1000000 then
          some (.returned (.int .u64 (fnvV (nodeRow nm (vs.map asI) es (xsOf [.int .u32 x0, .int .u32 x1, .int .u32 x2, .int .u32 x3, .int .u32 x4, .int .u32 x5, .int .i32 x6, .int .i32 x7, .int .i32 x8, .int .i64 x9, .int .i64 x10, .int .i64 x11, .int .i32 x12])))), μ) else none
      | none => none
    | _, _ => none
  | _ => none
theorem inR_ok {lo hi i : Int} (h : inR lo hi i = true) : lo ≤ i ∧ i ≤ hi := by
  simpa [inR] using h
theorem nodeSum_ok {pr : Prot} {w0 : World} {ng f : Nat} (hcon : ∀ (bs : List Int) (es : List Ent) (nm : ByteArray) (x : Nat → Int), (⟨nm, bs, es, x⟩ : Nd).ok → ConWG GT Tryz.prog f (kn13 bs es nm x (fnvV (nodeRow nm bs es x)))) {args : List Value} {μ μ' : Hp} {e : Ending} (h : nodeSum args μ = some (e, μ')) {ι : Ren} {w : World} (hS : Sim pr w0 ng ι μ w) :
    Calls Tryz.prog f (args.map (conc ι)).toArray w fun e' w' => ∃ ι', Ext μ.next ι ι' ∧ μ.next ≤ μ'.next ∧ Sim pr w0 ng ι' μ' w' ∧ EndRel ι' μ'.next e e' := by
  unfold nodeSum at h
  split at h
  · rename_i nm d a x0 x1 x2 x3 x4 x5 x6 x7 x8 x9 x10 x11 x12
    split at h
    · rename_i vs n us m hd ha
      split at h
      · rename_i es hes
        generalize hx : xsOf [.int .u32 x0, .int .u32 x1, .int .u32 x2, .int .u32 x3, .int .u32 x4, .int .u32 x5, .int .i32 x6, .int .i32 x7, .int .i32 x8, .int .i64 x9, .int .i64 x10, .int .i64 x11, .int .i32 x12] = x at h
        cases hb : (vs.all isB && Nat.beq m es.length && us.all atom && es.all (fun e => inR (-128) 127 e.1) && inR (-2147483648) 2147483647 x6 && inR (-2147483648) 2147483647 x7 && inR (-2147483648) 2147483647 x8 && inR (-9223372036854775808) 9223372036854775807 x9 && inR (-2147483648) 2147483647 x12 && Nat.ble (nm.size + n + (aB es).length) 1000000 && Nat.ble m 1000000) with
        | false => rw [hb] at h; cases h
        | true =>
          rw [hb, cond_true] at h
          simp only [Bool.and_eq_true] at hb
          obtain ⟨⟨⟨⟨⟨⟨⟨⟨⟨⟨h1, h2⟩, h3⟩, h4⟩, h6⟩, h7⟩, h8⟩, h9⟩, h12⟩, hl⟩, hm⟩ := hb
          have h2 := beq_yes h2
          have hl := Nat.le_of_ble_eq_true hl
          have hm := Nat.le_of_ble_eq_true hm
          cases h
          obtain ⟨hwd, hld⟩ := cellsAt_ok hS hd (isB_atoms h1)
          obtain ⟨hwa, hla⟩ := cellsAt_ok hS ha h3
          have hbv := bv_asI h1
          have hav := entsOf_ok hes
          have hok : (⟨nm, vs.map asI, es, x⟩ : Nd).ok := by
            refine ⟨by simp only [List.length_map]; omega, by simp only; omega, fun a ha => inR_ok (List.all_eq_true.1 h4 a ha), ?_⟩
            subst hx
            exact ⟨inR_ok h6, inR_ok h7, inR_ok h8, inR_ok h9, inR_ok h12⟩
          have hc := hcon _ _ _ _ hok
          refine calls_stays hS (pure_int _ _) ?_
          refine callsW (c := kn13 (vs.map asI) es nm x (fnvV (nodeRow nm (vs.map asI) es x))) (G := GT) trivial hc (pure_int _ _) (fun i => match i with
            | 0 => conc ι d
            | _ => conc ι a) ?_ ?_
          · intro i hi
            match i, hi with
            | 0, _ =>
              have : Wd.v (bv (vs.map asI)) (vs.map asI).length = Wd.v vs n := by rw [hbv, List.length_map, hld, Nat.mul_one]
              show wordF _ (conc ι d) (Wd.v (bv (vs.map asI)) (vs.map asI).length)
              rw [this]
              exact hwd
            | 1, _ =>
              have : Wd.v (av es) es.length = Wd.v us m := by rw [hav, h2]
              show wordF _ (conc ι a) (Wd.v (av es) es.length)
              rw [this]
              exact hwa
            | i + 2, hi => exact absurd hi (by simp [kn13])
          · intro ι' hι
            have e0 := hι 0 (by simp [kn13])
            have e1 := hι 1 (by simp [kn13])
            simp only [Nat.mul_zero, Nat.zero_add, Nat.mul_one] at e0 e1
            subst hx
            simp [kn13, nodeV, e0, e1, xsOf, asI]
      · cases h
    · cases h
  · cases h
def names0 : List Int := [0, 183, 169, 171, 173, 169, 416, 64, 32, 161, 161, 161, 161]
def pow10 : List Int := [1, 10, 100, 1000, 10000, 100000, 1000000, 10000000, 100000000, 1000000000, 10000000000, 100000000000, 1000000000000, 10000000000000, 100000000000000, 1000000000000000, 10000000000000000, 100000000000000000, 1000000000000000000, 10000000000000000000]
def tabs9 : List NumTab := [⟨0, .u64, names0⟩, ⟨1, .u64, pow10⟩]
noncomputable def E9 : Env := { env Tryz.prog with ng := 9 }
theorem env9 : EnvOk Tryz.prog E9 := env_ng_ok ngT 9
def nodeP : Plain := fun f => bif Nat.beq f 13 || Nat.beq f 14 then some nodeSum else none
theorem con13' {bs : List Int} {es : List Ent} {nm : ByteArray} {x : Nat → Int} (h : (⟨nm, bs, es, x⟩ : Nd).ok) : ConWG GT Tryz.prog 13 (kn13 bs es nm x (fnvV (nodeRow nm bs es x))) := by
  have hb := h.b
  have hm := h.m
  simp only at hb hm
  exact con13 (by omega) (by rw [gB_len, bv_len]; simp only [gL, List.length_append, b4_len]; omega)
theorem con14' {bs : List Int} {es : List Ent} {nm : ByteArray} {x : Nat → Int} (h : (⟨nm, bs, es, x⟩ : Nd).ok) : ConWG GT Tryz.prog 14 (kn13 bs es nm x (fnvV (nodeRow nm bs es x))) := by
  have hb := h.b
  have hm := h.m
  simp only at hb hm
  exact con14 (by omega) h.p h.x (by unfold n39; omega)
theorem nodeP_ok (pr : Prot) (w0 : World) : SumsOk Tryz.prog pr w0 E9.ng nodeP := by
  intro f s hs args μ e μ' h ι w hS hb
  unfold nodeP at hs
  cases h1 : Nat.beq f 13 with
  | true =>
    rw [h1, Bool.true_or, cond_true, Option.some.injEq] at hs
    subst hs
    have := beq_yes h1
    subst this
    exact nodeSum_ok (fun bs es nm x hk => con13' hk) h hS
  | false =>
    cases h2 : Nat.beq f 14 with
    | true =>
      rw [h1, h2, Bool.false_or, cond_true, Option.some.injEq] at hs
      subst hs
      have := beq_yes h2
      subst this
      exact nodeSum_ok (fun bs es nm x hk => con14' hk) h hS
    | false => rw [h1, h2] at hs; cases hs
end Go.Abs
end
