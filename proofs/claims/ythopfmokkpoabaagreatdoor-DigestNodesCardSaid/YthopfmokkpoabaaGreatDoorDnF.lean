/-
  What the law's functions come to: part F.
-/
import Derived.Test.YthopfmokkpoabaaGreatDoorDnE
import Derived.Test.YthopfmokkpoabaaGreatDoorBmE
import Derived.OpenShut
import Derived.Test.YthopfmokkpoabaaGreatDoorDnA
set_option linter.unusedVariables false
set_option linter.unusedSimpArgs false
set_option linter.unusedSectionVars false
section
namespace Go.Abs
open Go.Proofs
set_option maxRecDepth 100000
def oS5 (n : Nat) (ds : List Deep) (vs dv ar : List Value) : List (Nat × AObj):=[(0,.ro ds),(1,.word n 0),(2,.cells vs 0),(3,.cells dv 0),(4,.cells ar 0)]
def tL1 (n c i : Nat) : List (Nat × Value):=[(0,.chan (some 1)),(2,.bool false),(3,.slice (some ⟨2,0,none⟩) n c),(4,.int .i64 i)]
def tL2 (n c i k : Nat) : List (Nat × Value):=[(0,.chan (some 1)),(2,.bool false),(3,.slice (some ⟨2,0,none⟩) n c),(6,.int .i64 i),(7,.int .i64 k)]
def tL3 (n c i k : Nat) : List (Nat × Value):=[(0,.chan (some 1)),(2,.bool false),(3,.slice (some ⟨2,0,none⟩) n c),(6,.int .i64 i),(8,.int .i64 k)]
theorem L2d_came (n : Nat) (c : Nat) (i : Nat) (k : Nat) (m : Nat) (c1 : Nat) (ds : List Deep) (vs : List Value) (dv : List Value) (ar : List Value) (b : Int) (h0 : 0 ≤ (↑i : Int)∧(↑i : Int) < (↑n : Int)) (h1 : vs[0 + Int.toNat (↑i : Int) * 16 + 1]? = some (Value.slice (some ⟨3,0,none⟩) m c1)) (h2 : decide ((↑k : Int) < (↑m : Int)) = true) (h3 : 0 ≤ (↑k : Int)∧(↑k : Int) < (↑m : Int)) (h4 : dv[0 + Int.toNat (↑k : Int) * 1]? = some (Value.int .u8 b)) (h5 : 0 + Int.toNat (↑k : Int) * 1 + 1 ≤ List.length dv∧true = true) :
  Ran (codeO Tryz.prog E1 (sm0) noRun 100 3 [0,0,1,0,0,0,1,0,0,1,0,1,1,1,1,1] (codeAt Tryz.f3 [0,0,1,0,0,0,1,0,0,1,0,1,1,1,1,1]) (mkFr 124 (tL2 n c i k)) (mkHp 400000000 (oS5 n ds vs dv ar)) [.skip 3,.sym,.skip 1,.v (Value.slice (some ⟨3,0,none⟩) m c1),.skip 2,.b true,.skip 2,.sym,.skip 1,.v (Value.slice (some ⟨3,0,none⟩) m c1),.skip 3,.sym,.skip 1,.v (Value.slice (some ⟨3,0,none⟩) m c1),.skip 1,.sym,.v (Value.int .u8 b),.skip 1,.sym,.sym] True) (Exit.normal) 124 [(0,Value.chan (some 1)),(2,Value.bool false),(3,Value.slice (some ⟨2,0,none⟩) n c),(6,Value.int .i64 (↑i : Int)),(7,Value.int .i64 (IntKind.wrap .i64 ((↑k : Int) + 1)))] [(0,AObj.ro ds),(1,AObj.word n 0),(2,AObj.cells vs 0),(3,AObj.cells (putAt dv (0 + Int.toNat (↑k : Int) * 1) [Value.int .u8 (IntKind.wrap .u8 (b + 1))]) 0),(4,AObj.cells ar 0)] 400000000 :=
 cameF_of (O:=let x0:=Value.slice (some (Addr.mk 3 0 none)) m c1;(((((((((((True∧0 ≤ (↑i : Int)∧(↑i : Int) < (↑n : Int))∧vs[0 + Int.toNat (↑i : Int) * 16 + 1]? = some x0)∧decide ((↑k : Int) < (↑m : Int)) = true)∧0 ≤ (↑i : Int)∧(↑i : Int) < (↑n : Int))∧vs[0 + Int.toNat (↑i : Int) * 16 + 1]? = some x0)∧0 ≤ (↑i : Int)∧(↑i : Int) < (↑n : Int))∧vs[0 + Int.toNat (↑i : Int) * 16 + 1]? = some x0)∧0 ≤ (↑k : Int)∧(↑k : Int) < (↑m : Int))∧dv[0 + Int.toNat (↑k : Int) * 1]? = some (Value.int .u8 b))∧0 ≤ (↑k : Int)∧(↑k : Int) < (↑m : Int))∧0 + Int.toNat (↑k : Int) * 1 + 1 ≤ List.length dv∧true = true)∧True∧True∧True∧True∧True∧True∧True∧True∧True∧True∧True∧True∧True∧True∧True∧True∧True∧True) (by kernel_rfl) ⟨⟨⟨⟨⟨⟨⟨⟨⟨⟨⟨⟨trivial,h0⟩,h1⟩,h2⟩,h0⟩,h1⟩,h0⟩,h1⟩,h3⟩,h4⟩,h3⟩,h5⟩,⟨trivial,⟨trivial,⟨trivial,⟨trivial,⟨trivial,⟨trivial,⟨trivial,⟨trivial,⟨trivial,⟨trivial,⟨trivial,⟨trivial,⟨trivial,⟨trivial,⟨trivial,⟨trivial,⟨trivial,trivial⟩⟩⟩⟩⟩⟩⟩⟩⟩⟩⟩⟩⟩⟩⟩⟩⟩⟩
theorem L2e_came (n : Nat) (c : Nat) (i : Nat) (k : Nat) (m : Nat) (c1 : Nat) (ds : List Deep) (vs : List Value) (dv : List Value) (ar : List Value) (h0 : 0 ≤ (↑i : Int)∧(↑i : Int) < (↑n : Int)) (h1 : vs[0 + Int.toNat (↑i : Int) * 16 + 1]? = some (Value.slice (some ⟨3,0,none⟩) m c1)) (h2 : decide ((↑k : Int) < (↑m : Int)) = false) :
  Ran (codeO Tryz.prog E1 (sm0) noRun 100 3 [0,0,1,0,0,0,1,0,0,1,0,1,1,1,1,1] (codeAt Tryz.f3 [0,0,1,0,0,0,1,0,0,1,0,1,1,1,1,1]) (mkFr 124 (tL2 n c i k)) (mkHp 400000000 (oS5 n ds vs dv ar)) [.skip 3,.sym,.skip 1,.v (Value.slice (some ⟨3,0,none⟩) m c1),.skip 2,.b false] True) (Exit.exit 4) 124 [(0,Value.chan (some 1)),(2,Value.bool false),(3,Value.slice (some ⟨2,0,none⟩) n c),(6,Value.int .i64 (↑i : Int))] [(0,AObj.ro ds),(1,AObj.word n 0),(2,AObj.cells vs 0),(3,AObj.cells dv 0),(4,AObj.cells ar 0)] 400000000 :=
 cameF_of (O:=(((True∧0 ≤ (↑i : Int)∧(↑i : Int) < (↑n : Int))∧vs[0 + Int.toNat (↑i : Int) * 16 + 1]? = some (Value.slice (some ⟨3,0,none⟩) m c1))∧decide ((↑k : Int) < (↑m : Int)) = false)) (by kernel_rfl) ⟨⟨⟨trivial,h0⟩,h1⟩,h2⟩
theorem L3d_came (n : Nat) (c : Nat) (i : Nat) (k : Nat) (m : Nat) (c1 : Nat) (ds : List Deep) (vs : List Value) (dv : List Value) (ar : List Value) (b : Int) (h0 : 0 ≤ (↑i : Int)∧(↑i : Int) < (↑n : Int)) (h1 : vs[0 + Int.toNat (↑i : Int) * 16 + 2]? = some (Value.slice (some ⟨4,0,none⟩) m c1)) (h2 : decide ((↑k : Int) < (↑m : Int)) = true) (h3 : 0 ≤ (↑k : Int)∧(↑k : Int) < (↑m : Int)) (h4 : ar[0 + Int.toNat (↑k : Int) * 3]? = some (Value.int .i8 b)) (h5 : 0 + Int.toNat (↑k : Int) * 3 + 1 ≤ List.length ar∧true = true) :
  Ran (codeO Tryz.prog E1 (sm0) noRun 100 3 [0,0,1,1,0,0,1,0,0,1,0,1,1,1,1,1] (codeAt Tryz.f3 [0,0,1,1,0,0,1,0,0,1,0,1,1,1,1,1]) (mkFr 124 (tL3 n c i k)) (mkHp 400000000 (oS5 n ds vs dv ar)) [.skip 3,.sym,.skip 1,.v (Value.slice (some ⟨4,0,none⟩) m c1),.skip 2,.b true,.skip 2,.sym,.skip 1,.v (Value.slice (some ⟨4,0,none⟩) m c1),.skip 3,.sym,.skip 1,.v (Value.slice (some ⟨4,0,none⟩) m c1),.skip 1,.sym,.skip 1,.v (Value.int .i8 b),.skip 1,.sym,.skip 1,.sym] True) (Exit.normal) 124 [(0,Value.chan (some 1)),(2,Value.bool false),(3,Value.slice (some ⟨2,0,none⟩) n c),(6,Value.int .i64 (↑i : Int)),(8,Value.int .i64 (IntKind.wrap .i64 ((↑k : Int) + 1)))] [(0,AObj.ro ds),(1,AObj.word n 0),(2,AObj.cells vs 0),(3,AObj.cells dv 0),(4,AObj.cells (putAt ar (0 + Int.toNat (↑k : Int) * 3) [Value.int .i8 (IntKind.wrap .i8 (↑(BitVec.toNat (BitVec.ofInt 8 b ^^^ BitVec.ofInt 8 1)) : Int))]) 0)] 400000000 :=
 cameF_of (O:=let x0:=Value.slice (some (Addr.mk 4 0 none)) m c1;(((((((((((True∧0 ≤ (↑i : Int)∧(↑i : Int) < (↑n : Int))∧vs[0 + Int.toNat (↑i : Int) * 16 + 2]? = some x0)∧decide ((↑k : Int) < (↑m : Int)) = true)∧0 ≤ (↑i : Int)∧(↑i : Int) < (↑n : Int))∧vs[0 + Int.toNat (↑i : Int) * 16 + 2]? = some x0)∧0 ≤ (↑i : Int)∧(↑i : Int) < (↑n : Int))∧vs[0 + Int.toNat (↑i : Int) * 16 + 2]? = some x0)∧0 ≤ (↑k : Int)∧(↑k : Int) < (↑m : Int))∧ar[0 + Int.toNat (↑k : Int) * 3]? = some (Value.int .i8 b))∧0 ≤ (↑k : Int)∧(↑k : Int) < (↑m : Int))∧0 + Int.toNat (↑k : Int) * 3 + 1 ≤ List.length ar∧true = true)∧True∧True∧True∧True∧True∧True∧True∧True∧True∧True∧True∧True∧True∧True∧True∧True∧True∧True∧True∧True) (by kernel_rfl) ⟨⟨⟨⟨⟨⟨⟨⟨⟨⟨⟨⟨trivial,h0⟩,h1⟩,h2⟩,h0⟩,h1⟩,h0⟩,h1⟩,h3⟩,h4⟩,h3⟩,h5⟩,⟨trivial,⟨trivial,⟨trivial,⟨trivial,⟨trivial,⟨trivial,⟨trivial,⟨trivial,⟨trivial,⟨trivial,⟨trivial,⟨trivial,⟨trivial,⟨trivial,⟨trivial,⟨trivial,⟨trivial,⟨trivial,⟨trivial,trivial⟩⟩⟩⟩⟩⟩⟩⟩⟩⟩⟩⟩⟩⟩⟩⟩⟩⟩⟩⟩
theorem L3e_came (n : Nat) (c : Nat) (i : Nat) (k : Nat) (m : Nat) (c1 : Nat) (ds : List Deep) (vs : List Value) (dv : List Value) (ar : List Value) (h0 : 0 ≤ (↑i : Int)∧(↑i : Int) < (↑n : Int)) (h1 : vs[0 + Int.toNat (↑i : Int) * 16 + 2]? = some (Value.slice (some ⟨4,0,none⟩) m c1)) (h2 : decide ((↑k : Int) < (↑m : Int)) = false) :
  Ran (codeO Tryz.prog E1 (sm0) noRun 100 3 [0,0,1,1,0,0,1,0,0,1,0,1,1,1,1,1] (codeAt Tryz.f3 [0,0,1,1,0,0,1,0,0,1,0,1,1,1,1,1]) (mkFr 124 (tL3 n c i k)) (mkHp 400000000 (oS5 n ds vs dv ar)) [.skip 3,.sym,.skip 1,.v (Value.slice (some ⟨4,0,none⟩) m c1),.skip 2,.b false] True) (Exit.exit 6) 124 [(0,Value.chan (some 1)),(2,Value.bool false),(3,Value.slice (some ⟨2,0,none⟩) n c),(6,Value.int .i64 (↑i : Int))] [(0,AObj.ro ds),(1,AObj.word n 0),(2,AObj.cells vs 0),(3,AObj.cells dv 0),(4,AObj.cells ar 0)] 400000000 :=
 cameF_of (O:=(((True∧0 ≤ (↑i : Int)∧(↑i : Int) < (↑n : Int))∧vs[0 + Int.toNat (↑i : Int) * 16 + 2]? = some (Value.slice (some ⟨4,0,none⟩) m c1))∧decide ((↑k : Int) < (↑m : Int)) = false)) (by kernel_rfl) ⟨⟨⟨trivial,h0⟩,h1⟩,h2⟩
def tO (n c i : Nat) : List (Nat × Value):=[(0,.chan (some 1)),(2,.bool false),(3,.slice (some ⟨2,0,none⟩) n c),(6,.int .i64 i)]
theorem L2r_came (n : Nat) (c : Nat) (i : Nat) (ds : List Deep) (vs : List Value)  :
  Ran (codeO Tryz.prog E1 (sm0) noRun 100 3 [0,0,0,0,1,0,0,1,0,1,1,1,1,1] (codeAt Tryz.f3 [0,0,0,0,1,0,0,1,0,1,1,1,1,1]) (mkFr 124 (tO n c i)) (mkHp 400000000 (oL n ds vs)) [] True) (Exit.normal) 124 [(0,Value.chan (some 1)),(2,Value.bool false),(3,Value.slice (some ⟨2,0,none⟩) n c),(6,Value.int .i64 (↑i : Int)),(7,Value.int .i64 0)] [(0,AObj.ro ds),(1,AObj.word n 0),(2,AObj.cells vs 0)] 400000000 :=
 cameF_of (O:=True) (by kernel_rfl) trivial
theorem L3r_came (n : Nat) (c : Nat) (i : Nat) (ds : List Deep) (vs : List Value)  :
  Ran (codeO Tryz.prog E1 (sm0) noRun 100 3 [0,1,0,0,1,0,0,1,0,1,1,1,1,1] (codeAt Tryz.f3 [0,1,0,0,1,0,0,1,0,1,1,1,1,1]) (mkFr 124 (tO n c i)) (mkHp 400000000 (oL n ds vs)) [] True) (Exit.normal) 124 [(0,Value.chan (some 1)),(2,Value.bool false),(3,Value.slice (some ⟨2,0,none⟩) n c),(6,Value.int .i64 (↑i : Int)),(8,Value.int .i64 0)] [(0,AObj.ro ds),(1,AObj.word n 0),(2,AObj.cells vs 0)] 400000000 :=
 cameF_of (O:=True) (by kernel_rfl) trivial
theorem LOa_came (n : Nat) (c : Nat) (i : Nat) (ds : List Deep) (vs : List Value) (h0 : decide ((↑i : Int) < (↑n : Int)) = true) :
  Ran (codeO Tryz.prog E1 (sm0) noRun 100 3 [0,0,0,1,0,1,1,1,1,1] (codeAt Tryz.f3 [0,0,0,1,0,1,1,1,1,1]) (mkFr 124 (tO n c i)) (mkHp 400000000 (oL n ds vs)) [.skip 4,.b true] True) (Exit.normal) 124 [(0,Value.chan (some 1)),(2,Value.bool false),(3,Value.slice (some ⟨2,0,none⟩) n c),(6,Value.int .i64 (↑i : Int))] [(0,AObj.ro ds),(1,AObj.word n 0),(2,AObj.cells vs 0)] 400000000 :=
 cameF_of (O:=(True∧decide ((↑i : Int) < (↑n : Int)) = true)) (by kernel_rfl) ⟨trivial,h0⟩
theorem LOx_came (n : Nat) (c : Nat) (i : Nat) (ds : List Deep) (vs : List Value) (h0 : decide ((↑i : Int) < (↑n : Int)) = false) :
  Ran (codeO Tryz.prog E1 (sm0) noRun 100 3 [0,0,1,0,1,1,1,1,1] (codeAt Tryz.f3 [0,0,1,0,1,1,1,1,1]) (mkFr 124 (tO n c i)) (mkHp 400000000 (oL n ds vs)) [.skip 4,.b false] True) (Exit.exit 2) 124 [(0,Value.chan (some 1)),(2,Value.bool false),(3,Value.slice (some ⟨2,0,none⟩) n c)] [(0,AObj.ro ds),(1,AObj.word n 0),(2,AObj.cells vs 0)] 400000000 :=
 cameF_of (O:=(True∧decide ((↑i : Int) < (↑n : Int)) = false)) (by kernel_rfl) ⟨trivial,h0⟩
theorem LOn_came (n : Nat) (c : Nat) (i : Nat) (ds : List Deep) (vs : List Value)  :
  Ran (codeO Tryz.prog E1 (sm0) noRun 100 3 [1,1,0,0,1,0,1,1,1,1,1] (codeAt Tryz.f3 [1,1,0,0,1,0,1,1,1,1,1]) (mkFr 124 (tO n c i)) (mkHp 400000000 (oL n ds vs)) [] True) (Exit.normal) 124 [(0,Value.chan (some 1)),(2,Value.bool false),(3,Value.slice (some ⟨2,0,none⟩) n c),(6,Value.int .i64 (IntKind.wrap .i64 ((↑i : Int) + 1)))] [(0,AObj.ro ds),(1,AObj.word n 0),(2,AObj.cells vs 0)] 400000000 :=
 cameF_of (O:=True) (by kernel_rfl) trivial
def kidsK (K : Nat → List Value × List Value) (n : Nat) : List (Nat × AObj):=rows (fun j => [(1000 + 2 * j,.cells (K j).1 0),(1001 + 2 * j,.cells (K j).2 0)]) n
def vsF (l : List Nd) : List Value:=vsN l (l.length + 64) (l.length + 64)
def oK (l : List Nd) (K : Nat → List Value × List Value) : List (Nat × AObj):=oL l.length (nodesD l) (vsF l) ++ kidsK K l.length
def upd (K : Nat → List Value × List Value) (i : Nat) (x : List Value × List Value) : Nat → List Value × List Value:=fun j => if j = i then x else K j
theorem kidsK_mem {K : Nat → List Value × List Value} {n : Nat} {p : Nat × AObj} (h : p ∈ kidsK K n) : ∃ j,j < n∧(p = (1000 + 2 * j,.cells (K j).1 0) ∨ p = (1001 + 2 * j,.cells (K j).2 0)):=by
 obtain ⟨j,hj,h1⟩:=rows_mem h
 simp only [List.mem_cons,List.not_mem_nil,or_false] at h1
 exact ⟨j,hj,h1⟩
theorem kidsK_look {K : Nat → List Value × List Value} {j : Nat} : ∀ {n : Nat},j < n → look (kidsK K n) (1000 + 2 * j) = some (.cells (K j).1 0)∧look (kidsK K n) (1001 + 2 * j) = some (.cells (K j).2 0)
 | 0,h => absurd h (Nat.not_lt_zero _)
 | n + 1,h => by
  rw [kidsK,rows_succ,← kidsK,look_app,look_app]
  by_cases hk : j < n
  ·obtain ⟨h1,h2⟩:=kidsK_look (K:=K) hk
   rw [h1,h2];exact ⟨rfl,rfl⟩
  ·obtain rfl : j = n:=by omega
   have hno : ∀ n,1000 + 2 * j ≤ n → look (kidsK K j) n = none:=fun n hn => look_none fun p hp => by
    obtain ⟨i,hi,rfl | rfl⟩:=kidsK_mem hp <;> simp only <;> omega
   rw [hno _ (by omega),hno _ (by omega)]
   simp only [look]
   rw [if_neg (show ¬ 1001 + 2 * j = 1000 + 2 * j by omega),if_pos trivial,if_pos trivial]
   exact ⟨rfl,rfl⟩
theorem kidsK_small {K : Nat → List Value × List Value} {n : Nat} (hn : n < 16777216) : smallN (kidsK K n) = true:=by
 refine List.all_eq_true.2 fun p hp => ?_
 obtain ⟨j,hj,rfl | rfl⟩:=kidsK_mem hp <;> simp only [Nat.blt_eq,limit] <;> omega
theorem kidsK_oth {K : Nat → List Value × List Value} {n : Nat} (hn : n < 16777216) {m : Nat} {ds : List Deep} {vs : List Value} : ∀ p ∈ kidsK K n,p.1 < 400000000∧∀ q ∈ oL m ds vs,q.1 ≠ p.1:=by
 intro p hp
 obtain ⟨j,hj,rfl | rfl⟩:=kidsK_mem hp
 all_goals
  refine ⟨by simp only;omega,fun q hq => ?_⟩
  simp only [oL,List.mem_cons,List.not_mem_nil,or_false] at hq
  rcases hq with rfl | rfl | rfl <;> simp only <;> omega
theorem oK_small {l : List Nd} (hl : l.length < 16777216) (K : Nat → List Value × List Value) : smallN (oK l K) = true:=smallN_app rfl (kidsK_small hl)
def swp (i n : Nat) : Nat:=if n = 3 then 1000 + 2 * i else if n = 4 then 1001 + 2 * i else if n = 1000 + 2 * i then 3 else if n = 1001 + 2 * i then 4 else n
theorem swp_swp (i n : Nat) : swp i (swp i n) = n:=by
 unfold swp
 repeat' split
 all_goals omega
theorem swp_inj {i n m : Nat} (h : n ≠ m) : swp i n ≠ swp i m:=fun e => h (by rw [← swp_swp i n,e,swp_swp])
theorem swp_low {i n : Nat} (hn : n < 3) : swp i n = n := by unfold swp; repeat' split
                                                             all_goals omega
theorem swp_lt {i n : Nat} (hi : i < 16777216) (hn : n < 400000000) : swp i n < 400000000:=by
 unfold swp
 repeat' split
 all_goals omega
theorem swp_ge {i n : Nat} (hi : i < 16777216) (hn : 400000000 ≤ n) : swp i n = n:=by
 unfold swp
 repeat' split
 all_goals omega
theorem swp3 (i : Nat) : swp i 3 = 1000 + 2 * i:=rfl
theorem swp4 (i : Nat) : swp i 4 = 1001 + 2 * i:=rfl
theorem swpD (i : Nat) : swp i (1000 + 2 * i) = 3:=by have:=swp_swp i 3;rw [swp3] at this;exact this
theorem swpA (i : Nat) : swp i (1001 + 2 * i) = 4:=by have:=swp_swp i 4;rw [swp4] at this;exact this
def vsS (l : List Nd) (i : Nat) : List Value:=(vsF l).map (upV (swp i))
theorem upV_vsF {l : List Nd} {i : Nat} {v : Value} (h : v ∈ vsF l) : upV (swp i) (upV (swp i) v) = v:=by
 rcases vsN_mem h with ⟨s,rfl⟩ | ⟨kk,i,rfl⟩ | rfl | ⟨j,n,c,h1,h2,rfl | rfl⟩
 ·simp [upV]
 ·simp [upV]
 ·simp [upV]
 ·simp [upV,swp_swp]
 ·simp [upV,swp_swp]
theorem vsS_up (l : List Nd) (i : Nat) : (vsS l i).map (upV (swp i)) = vsF l:=by
 rw [vsS,List.map_map]
 have : (vsF l).map (upV (swp i) ∘ upV (swp i)) = (vsF l).map id:=List.map_congr_left fun v hv => upV_vsF hv
 rw [this,List.map_id]
theorem vsS_bd {l : List Nd} (hl : l.length < 16777216) {i : Nat} (hi : i < l.length) : ∀ v ∈ vsS l i,Bd 400000000 v:=by
 intro v hv
 obtain ⟨u,hu,rfl⟩:=List.mem_map.1 hv
 exact Bd_up (N:=400000000) (fun n hn => swp_lt (by omega) hn) u (vsN_bd hl u hu)
theorem vsF_rows (l : List Nd) : vsF l = rows (cellN l) (l.length + 64):=by rw [vsF,vsN,fill_full]
theorem vsS_D {l : List Nd} {i : Nat} (hi : i < l.length) : (vsS l i)[i * 16 + 1]? = some (.slice (some ⟨3,0,none⟩) l[i].bs.length (2 * (l[i].bs.length + 64))):=by
 rw [vsS,List.getElem?_map,vsF_rows,rows_get (s:=16) (fun _ _ => cellN_len _ _) (by omega) (by omega),cellN,List.getElem?_eq_getElem hi]
 simp [nodeV,upV,swpD]
theorem vsS_A {l : List Nd} {i : Nat} (hi : i < l.length) : (vsS l i)[i * 16 + 2]? = some (.slice (some ⟨4,0,none⟩) l[i].es.length (2 * (l[i].es.length + 64))):=by
 rw [vsS,List.getElem?_map,vsF_rows,rows_get (s:=16) (fun _ _ => cellN_len _ _) (by omega) (by omega),cellN,List.getElem?_eq_getElem hi]
 simp [nodeV,upV,swpA]
def Plain2 (x : List Value × List Value) : Prop:=PlainC x.1∧PlainC x.2
theorem oS5_bd {l : List Nd} (hl : l.length < 16777216) {i : Nat} (hi : i < l.length) {x : List Value × List Value} (hx : Plain2 x) : ∀ p ∈ oS5 l.length (nodesD l) (vsS l i) x.1 x.2,p.1 < 400000000∧BdO 400000000 p.2:=by
 intro p hp
 simp only [oS5,List.mem_cons,List.not_mem_nil,or_false] at hp
 rcases hp with rfl | rfl | rfl | rfl | rfl
 ·exact ⟨by simp,trivial⟩
 ·exact ⟨by simp,by simp [BdO]⟩
 ·exact ⟨by simp,vsS_bd hl hi⟩
 ·exact ⟨by simp,fun v hv => (hx.1 v hv).1 _⟩
 ·exact ⟨by simp,fun v hv => (hx.2 v hv).1 _⟩
theorem oK_at {l : List Nd} {K : Nat → List Value × List Value} {n : Nat} {o : AObj} (h : look (oK l K) n = some o) : (n,o) ∈ oL l.length (nodesD l) (vsF l) ∨ ((n,o) ∈ kidsK K l.length):=List.mem_append.1 (look_mem _ _ _ h)
theorem lifts_swp {l : List Nd} (hl : l.length < 16777216) {K : Nat → List Value × List Value} {i : Nat} (hi : i < l.length) (hx : Plain2 (K i)) {y : List Value × List Value} (hy : Plain2 y) :
  Lifts (mkHp 400000000 (oK l K)) (swp i) (mkHp 400000000 (oS5 l.length (nodesD l) (vsS l i) (K i).1 (K i).2)) (mkHp 400000000 (oS5 l.length (nodesD l) (vsS l i) y.1 y.2)) (mkHp 400000000 (oK l (upd K i y))):=by
 have hno : ∀ n,1000 ≤ n → look (oL l.length (nodesD l) (vsF l)) n = none:=fun n hn => look_none fun q hq => by
  simp only [oL,List.mem_cons,List.not_mem_nil,or_false] at hq
  rcases hq with rfl | rfl | rfl <;> simp only <;> omega
 refine ⟨keeps_list (oK_small hl K) rfl (fun p hp => ⟨(oS5_bd hl hi hx p hp).1,(oS5_bd hl hi hx p hp).2,?_⟩) (fun p _ q _ _ _ hne => swp_inj hne) (by decide),fun n hn => swp_lt (by omega) hn,fun n hn => ?_,by simp only [mkHp],by simp only [mkHp,limit];omega,fun n o' hg => ?_⟩
 ·simp only [oS5,List.mem_cons,List.not_mem_nil,or_false] at hp
  obtain ⟨k1,k2⟩:=kidsK_look (K:=K) hi
  rcases hp with rfl | rfl | rfl | rfl | rfl
  ·rw [swp_low (n:=0) (by decide)];rfl
  ·rw [swp_low (n:=1) (by decide)]
   simp only [upO]
   rw [swp_low (by decide)];rfl
  ·rw [swp_low (n:=2) (by decide)]
   simp only [upO,vsS_up];rfl
  ·rw [swp3,oK,look_app,hno _ (by omega)]
   simp only [upO,hx.1.map];exact k1
  ·rw [swp4,oK,look_app,hno _ (by omega)]
   simp only [upO,hx.2.map];exact k2
 ·have hn' : 400000000 ≤ n:=hn
  rw [swp_ge (by omega) hn']
  show n = 400000000 + (n - 400000000)
  omega
 ·rw [hp_get (oK_small hl _)] at hg
  have hS : ∀ k,(mkHp 400000000 (oS5 l.length (nodesD l) (vsS l i) y.1 y.2)).get k = look (oS5 l.length (nodesD l) (vsS l i) y.1 y.2) k:=fun k => hp_get rfl k
  rcases oK_at hg with h | h
  ·simp only [oL,List.mem_cons,List.not_mem_nil,or_false,Prod.mk.injEq] at h
   rcases h with ⟨rfl,rfl⟩ | ⟨rfl,rfl⟩ | ⟨rfl,rfl⟩
   ·exact .inl ⟨0,_,by simp [mkHp],(swp_low (by decide)).symm,by rw [hS];rfl,rfl⟩
   ·exact .inl ⟨1,.word l.length 0,by simp [mkHp],(swp_low (by decide)).symm,by rw [hS];rfl,by simp only [upO];rw [swp_low (by decide)]⟩
   ·exact .inl ⟨2,.cells (vsS l i) 0,by simp [mkHp],(swp_low (by decide)).symm,by rw [hS];rfl,by simp only [upO,vsS_up]⟩
  ·obtain ⟨j,hj,h⟩:=kidsK_mem h
   by_cases hji : j = i
   ·subst hji
    simp only [upd,if_pos,Prod.mk.injEq] at h
    rcases h with ⟨rfl,rfl⟩ | ⟨rfl,rfl⟩
    ·exact .inl ⟨3,.cells y.1 0,by simp [mkHp],(swp3 j).symm,by rw [hS];rfl,by simp only [upO,hy.1.map]⟩
    ·exact .inl ⟨4,.cells y.2 0,by simp [mkHp],(swp4 j).symm,by rw [hS];rfl,by simp only [upO,hy.2.map]⟩
   ·simp only [upd,if_neg hji,Prod.mk.injEq] at h
    obtain ⟨k1,k2⟩:=kidsK_look (K:=K) hj
    have hn : ∀ m,(m = 1000 + 2 * j ∨ m = 1001 + 2 * j) → ∀ k o,(mkHp 400000000 (oS5 l.length (nodesD l) (vsS l i) (K i).1 (K i).2)).get k = some o → o.live = true → m ≠ swp i k:=by
     intro m hm k o hk _ e
     rw [hp_get rfl] at hk
     have:=look_mem _ _ _ hk
     simp only [oS5,List.mem_cons,List.not_mem_nil,or_false,Prod.mk.injEq] at this
     have hlo : ∀ q,q < 3 → m ≠ swp i q:=fun q hq e => by rw [swp_low hq] at e;omega
     rcases this with ⟨rfl,_⟩ | ⟨rfl,_⟩ | ⟨rfl,_⟩ | ⟨rfl,_⟩ | ⟨rfl,_⟩
     ·exact hlo 0 (by decide) e
     ·exact hlo 1 (by decide) e
     ·exact hlo 2 (by decide) e
     ·rw [swp3] at e;omega
     ·rw [swp4] at e;omega
    rcases h with ⟨rfl,rfl⟩ | ⟨rfl,rfl⟩
    ·exact .inr ⟨by simp only [mkHp];omega,by rw [hp_get (oK_small hl K),oK,look_app,hno _ (by omega)];exact k1,fun k o hk hv => hn _ (.inl rfl) k o hk hv⟩
    ·exact .inr ⟨by simp only [mkHp];omega,by rw [hp_get (oK_small hl K),oK,look_app,hno _ (by omega)];exact k2,fun k o hk hv => hn _ (.inr rfl) k o hk hv⟩
end Go.Abs
end
section
namespace Go.Abs
open Go.Proofs
set_option maxRecDepth 100000
theorem LOs_came (n : Nat) (c : Nat) (ds : List Deep) (vs : List Value)  :
  Ran (codeO Tryz.prog E1 (sm0) noRun 100 3 [0,0,1,1,1,1,1] (codeAt Tryz.f3 [0,0,1,1,1,1,1]) (mkFr 124 [(0,Value.chan (some 1)),(2,Value.bool false),(3,Value.slice (some ⟨2,0,none⟩) n c)]) (mkHp 400000000 (oL n ds vs)) [] True) (Exit.normal) 124 [(0,Value.chan (some 1)),(2,Value.bool false),(3,Value.slice (some ⟨2,0,none⟩) n c),(6,Value.int .i64 0)] [(0,AObj.ro ds),(1,AObj.word n 0),(2,AObj.cells vs 0)] 400000000 :=
 cameF_of (O:=True) (by kernel_rfl) trivial
theorem upd_at (K : Nat → List Value × List Value) (i : Nat) (x : List Value × List Value) : upd K i x i = x:=if_pos rfl
theorem upd_upd (K : Nat → List Value × List Value) (i : Nat) (x y : List Value × List Value) : upd (upd K i x) i y = upd K i y:=by
 funext j
 unfold upd
 split <;> rfl
theorem upd_self (K : Nat → List Value × List Value) (i : Nat) : upd K i (K i) = K:=by
 funext j
 unfold upd
 split
 ·rename_i h;rw [h]
 ·rfl
theorem kid_lift {l : List Nd} (hl : l.length < 16777216) {K : Nat → List Value × List Value} {i : Nat} (hi : i < l.length) {x : List Value × List Value} (hx : Plain2 x) {y : List Value × List Value} (hy : Plain2 y) {pr : Prot} {w0 : World} (hG : Tab pr w0)
  {s : Sm} (hs : ∀ pr w0,Tab pr w0 → SmOk Tryz.prog E1 pr w0 s) {p : List Nat} {c : Code} (hh : Here E1 3 p c) {orc : List Ans} {e : Exit} (hne : ∀ ch,e ≠ .panic ch) {ts ts1 : List (Nat × Value)} {os1 : List (Nat × AObj)} {n1 : Nat}
  (hc : Ran (codeO Tryz.prog E1 s noRun 100 3 p c (mkFr 124 ts) (mkHp 400000000 (oS5 l.length (nodesD l) (vsS l i) x.1 x.2)) orc True) e 124 ts1 os1 n1) (ts2 : List (Nat × Value))
  (ht : smallN ts = true) (hts : ∀ p ∈ ts,Bd 400000000 p.2∧look ts p.1 = some (upV (swp i) p.2)) (ht2 : ∀ p ∈ ts2,p ∈ ts1) (hs2 : smallN ts2 = true) (hts2 : ∀ p ∈ ts2,Bd 400000000 p.2∧upV (swp i) p.2 = p.2)
  (ho2 : ∀ p ∈ oS5 l.length (nodesD l) (vsS l i) y.1 y.2,p ∈ os1) {N : Nat} :
  Tri Tryz.prog pr w0 N c (mkFr 124 ts) (mkHp 400000000 (oK l (upd K i x))) fun e1 f1 m1 => e1 = e∧f1 = mkFr 124 ts2∧m1 = mkHp 400000000 (oK l (upd K i y)):=by
 have hlf:=lifts_swp hl (K:=upd K i x) hi (by rw [upd_at];exact hx) hy
 rw [upd_at,upd_upd] at hlf
 refine tri_lift tab_stands hG hne (τ:=swp i) (fun pr w0 hG => tri_came_via hP1.hE hP1.ng hP1.mix (hs pr w0 hG) noRun_ok hh hc.of (fun n => n) (fun p hp => by rw [upV_id];exact ht2 p hp) (fun p hp => by rw [upO_id];exact ho2 p hp) (fun p _ q _ h => h) hne hs2 rfl (fun p hp => (hts2 p hp).1) (oS5_bd hl hi hy) (by decide) (fun _ _ => rfl) (Nat.le_refl _))
  hlf (keepsF_list ht ht hts) rfl rfl rfl fun t ht' => ?_
 rw [mkFr_get hs2] at ht' ⊢
 cases hlk : look ts2 t with
 | none => rw [hlk] at ht';cases ht'
 | some v => exact (hts2 _ (look_mem _ _ _ hlk)).2.symm
theorem swp1 (i : Nat) : swp i 1 = 1:=swp_low (by decide)
theorem swp2 (i : Nat) : swp i 2 = 2:=swp_low (by decide)
theorem tL2_ok (n c i k : Nat) : ∀ p ∈ tL2 n c i k,(Bd 400000000 p.2∧look (tL2 n c i k) p.1 = some (upV (swp i) p.2))∧upV (swp i) p.2 = p.2:=by
 intro p hp
 simp only [tL2,List.mem_cons,List.not_mem_nil,or_false] at hp
 rcases hp with rfl | rfl | rfl | rfl | rfl <;> simp [tL2,look,upV,swp1,swp2]
theorem tL3_ok (n c i k : Nat) : ∀ p ∈ tL3 n c i k,(Bd 400000000 p.2∧look (tL3 n c i k) p.1 = some (upV (swp i) p.2))∧upV (swp i) p.2 = p.2:=by
 intro p hp
 simp only [tL3,List.mem_cons,List.not_mem_nil,or_false] at hp
 rcases hp with rfl | rfl | rfl | rfl | rfl <;> simp [tL3,look,upV,swp1,swp2]
theorem tO_ok (n c i j : Nat) : ∀ p ∈ tO n c i,(Bd 400000000 p.2∧look (tO n c i) p.1 = some (upV (swp j) p.2))∧upV (swp j) p.2 = p.2:=by
 intro p hp
 simp only [tO,List.mem_cons,List.not_mem_nil,or_false] at hp
 rcases hp with rfl | rfl | rfl | rfl <;> simp [tO,look,upV,swp1,swp2]
def GoodD (m : Nat) (d : List Value) : Prop:=PlainC d∧∃ bs : List Int,bs.length = m∧d.take m = bv bs
theorem GoodD.at {m : Nat} {d : List Value} (h : GoodD m d) {k : Nat} (hk : k < m) : ∃ b,d[k]? = some (.int .u8 b)∧k < d.length∧∀ b',GoodD m (putAt d k [.int .u8 b']):=by
 obtain ⟨hp,bs,rfl,hd⟩:=h
 have e : (d.take bs.length)[k]? = some (.int .u8 (bs.getD k 0)):=by
  rw [hd,bv,List.getElem?_map,getD_some hk];rfl
 rw [List.getElem?_take,if_pos hk] at e
 have hkd:=(List.getElem?_eq_some_iff.1 e).1
 refine ⟨_,e,hkd,fun b' => ⟨fun v hv => ?_,bs.set k b',by simp,?_⟩⟩
 ·rcases putAt_mem hv with h | h
  ·exact hp v h
  ·simp only [List.mem_cons,List.not_mem_nil,or_false] at h
   subst h
   exact ⟨by simp,by simp [upV]⟩
 ·rw [putAt_one d k _ hkd,List.take_set,hd,bv,bv,List.map_set]
theorem hh4 : Here E1 3 [0,0,1,0,0,0,1,0,0,1,0,1,1,1,1,1] (codeAt Tryz.f3 [0,0,1,0,0,0,1,0,0,1,0,1,1,1,1,1]):=codeAt_here (fn:=Tryz.f3) (by kernel_rfl) (by kernel_rfl)
theorem hh6 : Here E1 3 [0,0,1,1,0,0,1,0,0,1,0,1,1,1,1,1] (codeAt Tryz.f3 [0,0,1,1,0,0,1,0,0,1,0,1,1,1,1,1]):=codeAt_here (fn:=Tryz.f3) (by kernel_rfl) (by kernel_rfl)
theorem inD {l : List Nd} (hl : l.length < 16777216) (hs : ∀ nd ∈ l,nd.small) {K : Nat → List Value × List Value} {i : Nat} (hi : i < l.length) {d a : List Value} (hd : GoodD l[i].bs.length d) (ha : PlainC a) (c : Nat) {pr : Prot} {w0 : World} (hG : Tab pr w0) {N : Nat} (hN : N ≤ 1000) :
  Tri Tryz.prog pr w0 N (.loop (codeAt Tryz.f3 [0,0,1,0,0,0,1,0,0,1,0,1,1,1,1,1])) (mkFr 124 (tL2 l.length c i 0)) (mkHp 400000000 (oK l (upd K i (d,a)))) fun e f μ => e = .exit 4∧f = mkFr 124 (tO l.length c i)∧∃ d',GoodD l[i].bs.length d'∧μ = mkHp 400000000 (oK l (upd K i (d',a))):=by
 have hsm:=(hs l[i] (List.getElem_mem hi)).1
 have hi0 : 0 + Int.toNat (i : Int) * 16 = i * 16:=by simp
 refine tri_loop (T:={ t : Nat × List Value // t.1 ≤ l[i].bs.length∧GoodD l[i].bs.length t.2 }) (fun t => mkFr 124 (tL2 l.length c i t.1.1)) (fun t => mkHp 400000000 (oK l (upd K i (t.1.2,a)))) (fun t => l[i].bs.length - t.1.1) ?_ ⟨(0,d),Nat.zero_le _,hd⟩
 rintro ⟨⟨k,d⟩,hk,hd⟩
 simp only at hk hd ⊢
 by_cases hlt : k < l[i].bs.length
 ·obtain ⟨b,hb,hkd,hput⟩:=hd.at hlt
  have hk0 : 0 + Int.toNat (k : Int) * 1 = k:=by simp
  have hc:=L2d_came l.length c i k l[i].bs.length (2 * (l[i].bs.length + 64)) (nodesD l) (vsS l i) d a b (by omega) (by rw [hi0];exact vsS_D hi) (by simp;omega) (by omega) (by rw [hk0];exact hb) ⟨by rw [hk0];omega,rfl⟩
  rw [hk0,i64_succ (by omega)] at hc
  have h:=kid_lift hl (K:=K) hi (x:=(d,a)) ⟨hd.1,ha⟩ (y:=(putAt d k [.int .u8 (IntKind.wrap .u8 (b + 1))],a)) ⟨(hput _).1,ha⟩ hG (fun pr w0 _ => sm0_ok pr w0) hh4 (by simp) hc (tL2 l.length c i (k + 1)) rfl (fun p hp => (tL2_ok _ _ _ _ p hp).1) (by simp [tL2]) rfl (fun p hp => ⟨(tL2_ok _ _ _ _ p hp).1.1,(tL2_ok _ _ _ _ p hp).2⟩) (by simp [oS5]) (N:=N)
  refine h.weaken ?_
  rintro e f m ⟨rfl,rfl,rfl⟩
  exact .inl (.inl ⟨rfl,⟨(k + 1,_),hlt,hput _⟩,rfl,rfl,by simp only;omega⟩)
 ·obtain rfl : k = l[i].bs.length:=by omega
  have hc:=L2e_came l.length c i l[i].bs.length l[i].bs.length (2 * (l[i].bs.length + 64)) (nodesD l) (vsS l i) d a (by omega) (by rw [hi0];exact vsS_D hi) (by simp)
  have h:=kid_lift hl (K:=K) hi (x:=(d,a)) ⟨hd.1,ha⟩ (y:=(d,a)) ⟨hd.1,ha⟩ hG (fun pr w0 _ => sm0_ok pr w0) hh4 (by simp) hc (tO l.length c i) rfl (fun p hp => (tL2_ok _ _ _ _ p hp).1) (by simp [tO]) rfl (fun p hp => ⟨(tO_ok _ _ i i p hp).1.1,(tO_ok _ _ i i p hp).2⟩) (by simp [oS5]) (N:=N)
  refine h.weaken ?_
  rintro e f m ⟨rfl,rfl,rfl⟩
  exact .inl (.inr ⟨by simp,rfl,rfl,d,hd,rfl⟩)
def GoodA (es0 : List Ent) (a : List Value) : Prop:=PlainC a∧∃ es : List Ent,es.map (fun e => e.2) = es0.map (fun e => e.2)∧(∀ e ∈ es,-128 ≤ e.1∧e.1 ≤ 127)∧a.take (es0.length * 3) = av es
theorem av_set : ∀ (es : List Ent) (k : Nat) (b : Int) (h : k < es.length),(es.set k (b,es[k].2)).flatMap cellA = (es.flatMap cellA).set (k * 3) (.int .i8 b)
 | [],k,b,h => by simp at h
 | e :: es,0,b,h => by simp [cellA]
 | e :: es,k + 1,b,h => by
  have:=av_set es k b (by simpa using h)
  simp only [List.set_cons_succ,List.flatMap_cons,List.getElem_cons_succ,this]
  rw [List.set_append_right _ _ (by simp [cellA];omega)]
  congr 2
  simp [cellA]
  omega
theorem set_same {α : Type} {m : List α} {k : Nat} {x : α} (h : m[k]? = some x) : m.set k x = m:=by
 apply List.ext_getElem?
 intro j
 rw [List.getElem?_set]
 split
 ·rename_i e
  subst e
  rw [if_pos (List.getElem?_eq_some_iff.1 h).1,h]
 ·rfl
theorem GoodA.at {es0 : List Ent} {a : List Value} (h : GoodA es0 a) {k : Nat} (hk : k < es0.length) : ∃ b,a[k * 3]? = some (.int .i8 b)∧k * 3 < a.length∧∀ b',-128 ≤ b' → b' ≤ 127 → GoodA es0 (putAt a (k * 3) [.int .i8 b']):=by
 obtain ⟨hp,es,hm,hr,ha⟩:=h
 have hlen : es.length = es0.length:=by have:=congrArg List.length hm;simpa using this
 have hk' : k < es.length:=by omega
 have e : (a.take (es0.length * 3))[k * 3]? = some (.int .i8 es[k].1):=by
  rw [ha]
  have:=rows_get (f:=fun j => cellA (es.getD j (0,⟨#[]⟩,⟨#[]⟩))) (s:=3) (m:=es.length) (fun _ _ => rfl) hk' (r:=0) (by decide)
  rw [Nat.add_zero] at this
  rw [av,this,List.getD_eq_getElem?_getD,List.getElem?_eq_getElem hk'];rfl
 rw [List.getElem?_take,if_pos (by omega)] at e
 have hkd:=(List.getElem?_eq_some_iff.1 e).1
 refine ⟨_,e,hkd,fun b' h1 h2 => ⟨fun v hv => ?_,es.set k (b',es[k].2),?_,fun x hx => ?_,?_⟩⟩
 ·rcases putAt_mem hv with h | h
  ·exact hp v h
  ·simp only [List.mem_cons,List.not_mem_nil,or_false] at h
   subst h
   exact ⟨by simp,by simp [upV]⟩
 ·rw [List.map_set,← hm]
  have : (es.map fun e => e.2)[k]? = some es[k].2:=by rw [List.getElem?_map,List.getElem?_eq_getElem hk'];rfl
  exact set_same this
 ·rcases List.mem_or_eq_of_mem_set hx with h | rfl
  ·exact hr x h
  ·exact ⟨h1,h2⟩
 ·rw [putAt_one a (k * 3) _ hkd,List.take_set,ha,av_flat,av_flat,av_set]
theorem i8_rng (n : Int) : -128 ≤ IntKind.wrap .i8 n∧IntKind.wrap .i8 n ≤ 127:=by
 have:=wf_wrap .i8 n
 simp only [Lit.wf,Bool.and_eq_true,decide_eq_true_eq] at this
 exact this
theorem inA {l : List Nd} (hl : l.length < 16777216) (hs : ∀ nd ∈ l,nd.small) {K : Nat → List Value × List Value} {i : Nat} (hi : i < l.length) {d a : List Value} (hd : PlainC d) (ha : GoodA l[i].es a) (c : Nat) {pr : Prot} {w0 : World} (hG : Tab pr w0) {N : Nat} (hN : N ≤ 1000) :
  Tri Tryz.prog pr w0 N (.loop (codeAt Tryz.f3 [0,0,1,1,0,0,1,0,0,1,0,1,1,1,1,1])) (mkFr 124 (tL3 l.length c i 0)) (mkHp 400000000 (oK l (upd K i (d,a)))) fun e f μ => e = .exit 6∧f = mkFr 124 (tO l.length c i)∧∃ a',GoodA l[i].es a'∧μ = mkHp 400000000 (oK l (upd K i (d,a'))):=by
 have hsm:=(hs l[i] (List.getElem_mem hi)).2
 have hi0 : 0 + Int.toNat (i : Int) * 16 = i * 16:=by simp
 refine tri_loop (T:={ t : Nat × List Value // t.1 ≤ l[i].es.length∧GoodA l[i].es t.2 }) (fun t => mkFr 124 (tL3 l.length c i t.1.1)) (fun t => mkHp 400000000 (oK l (upd K i (d,t.1.2)))) (fun t => l[i].es.length - t.1.1) ?_ ⟨(0,a),Nat.zero_le _,ha⟩
 rintro ⟨⟨k,a⟩,hk,ha⟩
 simp only at hk ha ⊢
 by_cases hlt : k < l[i].es.length
 ·obtain ⟨b,hb,hkd,hput⟩:=ha.at hlt
  have hk0 : 0 + Int.toNat (k : Int) * 3 = k * 3:=by simp
  have hc:=L3d_came l.length c i k l[i].es.length (2 * (l[i].es.length + 64)) (nodesD l) (vsS l i) d a b (by omega) (by rw [hi0];exact vsS_A hi) (by simp;omega) (by omega) (by rw [hk0];exact hb) ⟨by rw [hk0];omega,rfl⟩
  rw [hk0,i64_succ (by omega)] at hc
  have hy:=hput _ (i8_rng ((BitVec.toNat (BitVec.ofInt 8 b ^^^ BitVec.ofInt 8 1) : Nat) : Int)).1 (i8_rng _).2
  have h:=kid_lift hl (K:=K) hi (x:=(d,a)) ⟨hd,ha.1⟩ (y:=(d,putAt a (k * 3) [.int .i8 (IntKind.wrap .i8 ((BitVec.toNat (BitVec.ofInt 8 b ^^^ BitVec.ofInt 8 1) : Nat) : Int))])) ⟨hd,hy.1⟩ hG (fun pr w0 _ => sm0_ok pr w0) hh6 (by simp) hc (tL3 l.length c i (k + 1)) rfl (fun p hp => (tL3_ok _ _ _ _ p hp).1) (by simp [tL3]) rfl (fun p hp => ⟨(tL3_ok _ _ _ _ p hp).1.1,(tL3_ok _ _ _ _ p hp).2⟩) (by simp [oS5]) (N:=N)
  refine h.weaken ?_
  rintro e f m ⟨rfl,rfl,rfl⟩
  exact .inl (.inl ⟨rfl,⟨(k + 1,_),hlt,hy⟩,rfl,rfl,by simp only;omega⟩)
 ·obtain rfl : k = l[i].es.length:=by omega
  have hc:=L3e_came l.length c i l[i].es.length l[i].es.length (2 * (l[i].es.length + 64)) (nodesD l) (vsS l i) d a (by omega) (by rw [hi0];exact vsS_A hi) (by simp)
  have h:=kid_lift hl (K:=K) hi (x:=(d,a)) ⟨hd,ha.1⟩ (y:=(d,a)) ⟨hd,ha.1⟩ hG (fun pr w0 _ => sm0_ok pr w0) hh6 (by simp) hc (tO l.length c i) rfl (fun p hp => (tL3_ok _ _ _ _ p hp).1) (by simp [tO]) rfl (fun p hp => ⟨(tO_ok _ _ i i p hp).1.1,(tO_ok _ _ i i p hp).2⟩) (by simp [oS5]) (N:=N)
  refine h.weaken ?_
  rintro e f m ⟨rfl,rfl,rfl⟩
  exact .inl (.inr ⟨by simp,rfl,rfl,a,ha,rfl⟩)
theorem oL_lift {l : List Nd} (hl : l.length < 16777216) {K : Nat → List Value × List Value} {pr : Prot} {w0 : World} (hG : Tab pr w0)
  {s : Sm} (hs : ∀ pr w0,Tab pr w0 → SmOk Tryz.prog E1 pr w0 s) {p : List Nat} {c : Code} (hh : Here E1 3 p c) {orc : List Ans} {e : Exit} (hne : ∀ ch,e ≠ .panic ch) {ts ts1 : List (Nat × Value)} {os1 : List (Nat × AObj)} {n1 : Nat}
  (hc : Ran (codeO Tryz.prog E1 s noRun 100 3 p c (mkFr 124 ts) (mkHp 400000000 (oL l.length (nodesD l) (vsF l))) orc True) e 124 ts1 os1 n1) (ts2 : List (Nat × Value))
  (ht : smallN ts = true) (hts : ∀ p ∈ ts,Bd 400000000 p.2∧look ts p.1 = some p.2) (ht2 : ∀ p ∈ ts2,p ∈ ts1) (hs2 : smallN ts2 = true) (hts2 : ∀ p ∈ ts2,Bd 400000000 p.2)
  (ho2 : ∀ p ∈ oL l.length (nodesD l) (vsF l),p ∈ os1) {N : Nat} :
  Tri Tryz.prog pr w0 N c (mkFr 124 ts) (mkHp 400000000 (oK l K)) fun e1 f1 m1 => e1 = e∧f1 = mkFr 124 ts2∧m1 = mkHp 400000000 (oK l K):=by
 exact came_lift hP1 tab_stands hG hs hh hne hc ts2 (oL l.length (nodesD l) (vsF l)) (kidsK K l.length) ht hts ht2 ho2 ⟨hs2,rfl,hts2,oL_bd hl,by decide,Nat.le_refl _⟩ rfl (oL_bd hl) (kidsK_small hl) (kidsK_oth hl) (N:=N)
theorem tO_ok' (n c i : Nat) : ∀ p ∈ tO n c i,Bd 400000000 p.2∧look (tO n c i) p.1 = some p.2:=by
 intro p hp
 simp only [tO,List.mem_cons,List.not_mem_nil,or_false] at hp
 rcases hp with rfl | rfl | rfl | rfl <;> simp [tO,look]
def AllGood (l : List Nd) (K : Nat → List Value × List Value) : Prop:=∀ j (h : j < l.length),GoodD l[j].bs.length (K j).1∧GoodA l[j].es (K j).2
theorem AllGood.upd {l : List Nd} {K : Nat → List Value × List Value} (h : AllGood l K) {i : Nat} (hi : i < l.length) {d a : List Value} (hd : GoodD l[i].bs.length d) (ha : GoodA l[i].es a) : AllGood l (upd K i (d,a)):=by
 intro j hj
 unfold Go.Abs.upd
 by_cases e : j = i
 ·subst e;rw [if_pos rfl];exact ⟨hd,ha⟩
 ·rw [if_neg e];exact h j hj
theorem shapeO : codeAt Tryz.f3 [0,0,1,0,1,1,1,1,1] = .seq (codeAt Tryz.f3 [0,0,0,1,0,1,1,1,1,1]) (.seq (.block 3 (.seq (.seq (codeAt Tryz.f3 [0,0,0,0,1,0,0,1,0,1,1,1,1,1]) (.block 4 (.loop (codeAt Tryz.f3 [0,0,1,0,0,0,1,0,0,1,0,1,1,1,1,1])))) (.seq (codeAt Tryz.f3 [0,1,0,0,1,0,0,1,0,1,1,1,1,1]) (.block 6 (.loop (codeAt Tryz.f3 [0,0,1,1,0,0,1,0,0,1,0,1,1,1,1,1])))))) (codeAt Tryz.f3 [1,1,0,0,1,0,1,1,1,1,1])):=by kernel_rfl
theorem hhX (p : List Nat) (h : (Tryz.f3.body.bind fun c => sub c p).isSome = true) : Here E1 3 p (codeAt Tryz.f3 p):=codeAt_here (fn:=Tryz.f3) (by kernel_rfl) (by rw [codeAt];cases hb : Tryz.f3.body.bind fun c => sub c p with
 | none => rw [hb] at h;cases h
 | some c => rfl)
theorem roundO {l : List Nd} (hl : l.length < 16777216) (hs : ∀ nd ∈ l,nd.small) {K : Nat → List Value × List Value} (hK : AllGood l K) {i : Nat} (hi : i < l.length) (c : Nat) {pr : Prot} {w0 : World} (hG : Tab pr w0) {N : Nat} (hN : N ≤ 1000) :
  Tri Tryz.prog pr w0 N (codeAt Tryz.f3 [0,0,1,0,1,1,1,1,1]) (mkFr 124 (tO l.length c i)) (mkHp 400000000 (oK l K)) fun e f m => e = .normal∧f = mkFr 124 (tO l.length c (i + 1))∧∃ K',AllGood l K'∧m = mkHp 400000000 (oK l K'):=by
 have s0 : ∀ pr w0,Tab pr w0 → SmOk Tryz.prog E1 pr w0 sm0:=fun pr w0 _ => sm0_ok pr w0
 have a1:=oL_lift hl (K:=K) hG s0 (hhX [0,0,0,1,0,1,1,1,1,1] (by kernel_rfl)) (by simp) (LOa_came l.length c i (nodesD l) (vsF l) (by simp;omega)) (tO l.length c i) rfl (tO_ok' _ _ _) (by simp [tO]) rfl (fun p hp => (tO_ok' _ _ _ p hp).1) (by simp [oL]) (N:=N)
 have a2:=oL_lift hl (K:=K) hG s0 (hhX [0,0,0,0,1,0,0,1,0,1,1,1,1,1] (by kernel_rfl)) (by simp) (L2r_came l.length c i (nodesD l) (vsF l)) (tL2 l.length c i 0) rfl (tO_ok' _ _ _) (by simp [tL2]) rfl (fun p hp => (tL2_ok _ _ i _ p hp).1.1) (by simp [oL]) (N:=N)
 have a3 : Tri Tryz.prog pr w0 N (.block 4 (.loop (codeAt Tryz.f3 [0,0,1,0,0,0,1,0,0,1,0,1,1,1,1,1]))) (mkFr 124 (tL2 l.length c i 0)) (mkHp 400000000 (oK l K)) fun e f μ => e = .normal∧f = mkFr 124 (tO l.length c i)∧∃ d',GoodD l[i].bs.length d'∧μ = mkHp 400000000 (oK l (upd K i (d',(K i).2))):=by
  have:=inD hl hs (K:=K) hi (d:=(K i).1) (a:=(K i).2) (hK i hi).1 (hK i hi).2.1 c hG hN
  rw [show ((K i).1,(K i).2) = K i from rfl,upd_self] at this
  exact tri_block this (fun f m h => ⟨rfl,h.2⟩) (fun e f m hne h => absurd h.1 hne)
 have a5 : ∀ d',GoodD l[i].bs.length d' → Tri Tryz.prog pr w0 N (.seq (codeAt Tryz.f3 [0,1,0,0,1,0,0,1,0,1,1,1,1,1]) (.block 6 (.loop (codeAt Tryz.f3 [0,0,1,1,0,0,1,0,0,1,0,1,1,1,1,1])))) (mkFr 124 (tO l.length c i)) (mkHp 400000000 (oK l (upd K i (d',(K i).2)))) fun e f m => e = .normal∧f = mkFr 124 (tO l.length c i)∧∃ K',AllGood l K'∧m = mkHp 400000000 (oK l K'):=by
  intro d' hd'
  have b1:=oL_lift hl (K:=upd K i (d',(K i).2)) hG s0 (hhX [0,1,0,0,1,0,0,1,0,1,1,1,1,1] (by kernel_rfl)) (by simp) (L3r_came l.length c i (nodesD l) (vsF l)) (tL3 l.length c i 0) rfl (tO_ok' _ _ _) (by simp [tL3]) rfl (fun p hp => (tL3_ok _ _ i _ p hp).1.1) (by simp [oL]) (N:=N)
  have b2:=inA hl hs (K:=K) hi hd'.1 (hK i hi).2 c hG hN
  refine tri_seq b1 (tri_block b2 (fun f m h => ?_) (fun e f m hne h => absurd h.1 hne))
  obtain ⟨_,h1,a',ha',h2⟩:=h
  exact ⟨rfl,h1,_,hK.upd hi hd' ha',h2⟩
 have a6 : ∀ K',Tri Tryz.prog pr w0 N (codeAt Tryz.f3 [1,1,0,0,1,0,1,1,1,1,1]) (mkFr 124 (tO l.length c i)) (mkHp 400000000 (oK l K')) fun e f m => e = .normal∧f = mkFr 124 (tO l.length c (i + 1))∧m = mkHp 400000000 (oK l K'):=by
  intro K'
  have hc:=LOn_came l.length c i (nodesD l) (vsF l)
  rw [i64_succ (by omega)] at hc
  exact oL_lift hl (K:=K') hG s0 (hhX [1,1,0,0,1,0,1,1,1,1,1] (by kernel_rfl)) (by simp) hc (tO l.length c (i + 1)) rfl (tO_ok' _ _ _) (by simp [tO]) rfl (fun p hp => (tO_ok' _ _ _ p hp).1) (by simp [oL]) (N:=N)
 rw [shapeO]
 refine tri_seq a1 (tri_seqE (Φ1:=fun e f m => e = .normal∧f = mkFr 124 (tO l.length c i)∧∃ K',AllGood l K'∧m = mkHp 400000000 (oK l K')) (tri_block (Φ:=fun e f m => e = .normal∧f = mkFr 124 (tO l.length c i)∧∃ K',AllGood l K'∧m = mkHp 400000000 (oK l K')) ?_ (fun f m h => by cases h.1) (fun e f m _ h => h)) ?_ (fun e f m hne h => absurd h.1 hne))
 ·refine tri_seqE (Φ1:=fun e f μ => e = .normal∧f = mkFr 124 (tO l.length c i)∧∃ d',GoodD l[i].bs.length d'∧μ = mkHp 400000000 (oK l (upd K i (d',(K i).2)))) (tri_seq a2 a3) ?_ (fun e f m hne h => absurd h.1 hne)
  rintro f m ⟨_,rfl,d',hd',rfl⟩
  exact a5 d' hd'
 ·rintro f m ⟨_,rfl,K',hK',rfl⟩
  exact (a6 K').weaken fun e f m h => .inl ⟨h.1,h.2.1,K',hK',h.2.2⟩
def tB (n c : Nat) : List (Nat × Value):=[(0,.chan (some 1)),(2,.bool false),(3,.slice (some ⟨2,0,none⟩) n c)]
theorem tB_ok (n c : Nat) : ∀ p ∈ tB n c,Bd 400000000 p.2∧look (tB n c) p.1 = some p.2:=by
 intro p hp
 simp only [tB,List.mem_cons,List.not_mem_nil,or_false] at hp
 rcases hp with rfl | rfl | rfl <;> simp [tB,look]
theorem shape2 : codeAt Tryz.f3 [0,1,1,1,1,1] = .seq (codeAt Tryz.f3 [0,0,1,1,1,1,1]) (.block 2 (.loop (codeAt Tryz.f3 [0,0,1,0,1,1,1,1,1]))):=by kernel_rfl
theorem loop2 {l : List Nd} (hl : l.length < 16777216) (hs : ∀ nd ∈ l,nd.small) {K : Nat → List Value × List Value} (hK : AllGood l K) (c : Nat) {pr : Prot} {w0 : World} (hG : Tab pr w0) {N : Nat} (hN : N ≤ 1000) :
  Tri Tryz.prog pr w0 N (codeAt Tryz.f3 [0,1,1,1,1,1]) (mkFr 124 (tB l.length c)) (mkHp 400000000 (oK l K)) fun e f m => e = .normal∧f = mkFr 124 (tB l.length c)∧∃ K',AllGood l K'∧m = mkHp 400000000 (oK l K'):=by
 have s0 : ∀ pr w0,Tab pr w0 → SmOk Tryz.prog E1 pr w0 sm0:=fun pr w0 _ => sm0_ok pr w0
 have a1:=oL_lift hl (K:=K) hG s0 (hhX [0,0,1,1,1,1,1] (by kernel_rfl)) (by simp) (LOs_came l.length c (nodesD l) (vsF l)) (tO l.length c 0) rfl (tB_ok _ _) (by simp [tO]) rfl (fun p hp => (tO_ok' _ _ _ p hp).1) (by simp [oL]) (N:=N)
 rw [shape2]
 refine tri_seq a1 (tri_block (Φ:=fun e f m => e = .exit 2∧f = mkFr 124 (tB l.length c)∧∃ K',AllGood l K'∧m = mkHp 400000000 (oK l K')) ?_ (fun f m h => ⟨rfl,h.2⟩) (fun e f m hne h => absurd h.1 hne))
 refine tri_loop (T:={ t : Nat × (Nat → List Value × List Value) // t.1 ≤ l.length∧AllGood l t.2 }) (fun t => mkFr 124 (tO l.length c t.1.1)) (fun t => mkHp 400000000 (oK l t.1.2)) (fun t => l.length - t.1.1) ?_ ⟨(0,K),Nat.zero_le _,hK⟩
 rintro ⟨⟨i,K⟩,hi,hK⟩
 simp only at hi hK ⊢
 by_cases hlt : i < l.length
 ·refine (roundO hl hs hK hlt c hG hN).weaken ?_
  rintro e f m ⟨rfl,rfl,K',hK',rfl⟩
  exact .inl (.inl ⟨rfl,⟨(i + 1,K'),hlt,hK'⟩,rfl,rfl,by simp only;omega⟩)
 ·obtain rfl : i = l.length:=by omega
  have a:=oL_lift hl (K:=K) hG s0 (hhX [0,0,1,0,1,1,1,1,1] (by kernel_rfl)) (by simp) (LOx_came l.length c l.length (nodesD l) (vsF l) (by simp)) (tB l.length c) rfl (tO_ok' _ _ _) (by simp [tB]) rfl (fun p hp => (tB_ok _ _ p hp).1) (by simp [oL]) (N:=N)
  refine a.weaken ?_
  rintro e f m ⟨rfl,rfl,rfl⟩
  exact .inl (.inr ⟨by simp,rfl,rfl,K,hK,rfl⟩)
def K0 (l : List Nd) (j : Nat) : List Value × List Value:=match l[j]? with
 | some nd => (row26 nd.bs (nd.bs.length + 64),row27 nd.es (nd.es.length + 64))
 | none => ([],[])
theorem kids_more {l : List Nd} : ∀ m,kidsO l (l.length + m) = kidsO l l.length
 | 0 => rfl
 | m + 1 => by rw [← Nat.add_assoc,kids_stop (by omega),kids_more m]
theorem nest_K0 (l : List Nd) : oNest l (l.length + 64) (l.length + 64) = oK l (K0 l):=by
 rw [oNest,oK,vsF,kids_more 64]
 congr 1
 refine rows_ext fun j hj => ?_
 simp only [kidsJ,K0,List.getElem?_eq_getElem hj]
 rfl
theorem good_K0 {l : List Nd} (hr : ∀ nd ∈ l,∀ a ∈ nd.es,-128 ≤ a.1∧a.1 ≤ 127) : AllGood l (K0 l):=by
 intro j hj
 simp only [K0,List.getElem?_eq_getElem hj]
 exact ⟨⟨row26_plain _ _,_,rfl,row26_take (by omega)⟩,row27_plain _ _,_,rfl,hr _ (List.getElem_mem hj),row27_take (by omega)⟩
def Nd.as (nd : Nd) (q : List Int × List Ent) : Nd:=⟨nd.nm,q.1,q.2,nd.x⟩
theorem allGood_list {l : List Nd} {K : Nat → List Value × List Value} (hK : AllGood l K) : ∃ l' : List Nd,l'.length = l.length∧∀ j (h : j < l.length) (h' : j < l'.length),l'[j].nm = l[j].nm∧l'[j].x = l[j].x∧l'[j].bs.length = l[j].bs.length∧l'[j].es.map (fun e => e.2) = l[j].es.map (fun e => e.2)∧(∀ e ∈ l'[j].es,-128 ≤ e.1∧e.1 ≤ 127) ∧
  (K j).1.take l'[j].bs.length = bv l'[j].bs∧(K j).2.take (l'[j].es.length * 3) = av l'[j].es:=by
 have h : ∀ j,∃ nd : Nd,∀ h : j < l.length,nd.nm = l[j].nm∧nd.x = l[j].x∧nd.bs.length = l[j].bs.length∧nd.es.map (fun e => e.2) = l[j].es.map (fun e => e.2)∧(∀ e ∈ nd.es,-128 ≤ e.1∧e.1 ≤ 127)∧(K j).1.take nd.bs.length = bv nd.bs∧(K j).2.take (nd.es.length * 3) = av nd.es:=by
  intro j
  by_cases h : j < l.length
  ·obtain ⟨⟨_,bs,h1,h2⟩,_,es,h3,h4,h5⟩:=hK j h
   have hlen : es.length = l[j].es.length:=by have:=congrArg List.length h3;simpa using this
   exact ⟨⟨l[j].nm,bs,es,l[j].x⟩,fun _ => ⟨rfl,rfl,h1,h3,h4,by simp only;rw [h1];exact h2,by simp only;rw [hlen];exact h5⟩⟩
  ·exact ⟨nd0,fun h' => absurd h' h⟩
 obtain ⟨f,hf⟩:=Classical.axiomOfChoice h
 refine ⟨(List.range l.length).map f,by simp,fun j h1 h2 => ?_⟩
 have e : ((List.range l.length).map f)[j] = f j:=by simp
 rw [e]
 exact hf j h1
end Go.Abs
end
section
namespace Go.Abs
open Go.Proofs
set_option maxRecDepth 100000
def RefV (ι : Ren) (w : World) (ds : List Deep) (vs : List Value) : Prop:=ds.length = vs.length∧∀ (i : Nat) (d : Deep) (v : Value),ds[i]? = some d → vs[i]? = some v → DeepOk (fun b => b < w.heap.size) w d (conc ι v)
theorem RefV.nil (ι : Ren) (w : World) : RefV ι w [] []:=⟨rfl,fun i d v h => by simp at h⟩
theorem RefV.cons {ι : Ren} {w : World} {d : Deep} {v : Value} {ds : List Deep} {vs : List Value} (h : DeepOk (fun b => b < w.heap.size) w d (conc ι v)) (hs : RefV ι w ds vs) : RefV ι w (d :: ds) (v :: vs):=by
 refine ⟨by simp [hs.1],fun i d' v' hd hv => ?_⟩
 cases i with
 | zero => simp at hd hv;subst hd;subst hv;exact h
 | succ i => exact hs.2 i d' v' (by simpa using hd) (by simpa using hv)
theorem RefV.append {ι : Ren} {w : World} {ds ds' : List Deep} {vs vs' : List Value} (h : RefV ι w ds vs) (h' : RefV ι w ds' vs') : RefV ι w (ds ++ ds') (vs ++ vs'):=by
 refine ⟨by simp [h.1,h'.1],fun i d v hd hv => ?_⟩
 by_cases hi : i < ds.length
 ·rw [List.getElem?_append_left hi] at hd
  rw [List.getElem?_append_left (by rw [← h.1];exact hi)] at hv
  exact h.2 i d v hd hv
 ·rw [List.getElem?_append_right (by omega)] at hd
  rw [List.getElem?_append_right (by rw [← h.1];omega),← h.1] at hv
  exact h'.2 _ d v hd hv
theorem RefV.rows {ι : Ren} {w : World} {f : Nat → List Deep} {g : Nat → List Value} : ∀ {n : Nat},(∀ j,j < n → RefV ι w (f j) (g j)) → RefV ι w (Go.Abs.rows f n) (Go.Abs.rows g n)
 | 0,_ => .nil _ _
 | n + 1,h => by
  rw [rows_succ,rows_succ]
  exact (RefV.rows fun j hj => h j (by omega)).append (h n (by omega))
theorem ref_int {ι : Ren} {w : World} (k : IntKind) (i : Int) : DeepOk (fun b => b < w.heap.size) w (.val (.int k i)) (conc ι (.int k i)):=by rw [deepOk_val];exact ⟨by simp,pure_int _ _⟩
theorem ref_str {ι : Ren} {w : World} (s : ByteArray) : DeepOk (fun b => b < w.heap.size) w (.val (.string s)) (conc ι (.string s)):=by rw [deepOk_val];exact ⟨by simp,fun ι => by simp⟩
theorem ref_tail {ι : Ren} {w : World} (x : Nat → Int) (vs : List Value) (h : vs = [.int .u32 (x 0),.int .u32 (x 1),.int .u32 (x 2),.int .u32 (x 3),.int .u32 (x 4),.int .u32 (x 5),.int .i32 (x 6),.int .i32 (x 7),.int .i32 (x 8),.int .i64 (x 9),.int .i64 (x 10),.int .i64 (x 11),.int .i32 (x 12)]) : RefV ι w (tailD x) vs:=by
 subst h
 exact .cons (ref_int _ _) (.cons (ref_int _ _) (.cons (ref_int _ _) (.cons (ref_int _ _) (.cons (ref_int _ _) (.cons (ref_int _ _) (.cons (ref_int _ _) (.cons (ref_int _ _) (.cons (ref_int _ _) (.cons (ref_int _ _) (.cons (ref_int _ _) (.cons (ref_int _ _) (.cons (ref_int _ _) (.nil _ _)))))))))))))
section
variable {pr : Prot} {w0 w : World} {ng : Nat} {ι : Ren}
theorem oK_get {l : List Nd} (hl : l.length < 16777216) {K : Nat → List Value × List Value} : (mkHp 400000000 (oK l K)).get 2 = some (.cells (vsF l) 0)∧∀ j,j < l.length → (mkHp 400000000 (oK l K)).get (1000 + 2 * j) = some (.cells (K j).1 0)∧(mkHp 400000000 (oK l K)).get (1001 + 2 * j) = some (.cells (K j).2 0):=by
 refine ⟨by rw [hp_get (oK_small hl K)];rfl,fun j hj => ?_⟩
 have hno : ∀ n,1000 ≤ n → look (oL l.length (nodesD l) (vsF l)) n = none:=fun n hn => look_none fun q hq => by
  simp only [oL,List.mem_cons,List.not_mem_nil,or_false] at hq
  rcases hq with rfl | rfl | rfl <;> simp only <;> omega
 obtain ⟨k1,k2⟩:=kidsK_look (K:=K) hj
 rw [hp_get (oK_small hl K),hp_get (oK_small hl K),oK,look_app,look_app,hno _ (by omega),hno _ (by omega)]
 exact ⟨k1,k2⟩
theorem kid_cells {μ : Hp} (hS : Sim pr w0 ng ι μ w) {n : Nat} {us : List Value} (hg : μ.get n = some (.cells us 0)) {k : Nat} {u : Value} (hu : us[k]? = some u) (hp : Pure u) : (ι.loc n).1 < w.heap.size∧w.cell? ⟨(ι.loc n).1,(ι.loc n).2 + k,none⟩ = some u:=by
 obtain ⟨h1,_⟩:=(hS.obj n _ hg).1 k u hu
 rw [(hp ι).1] at h1
 exact ⟨Go.block_lt_of_cell h1,h1⟩
theorem ref_slv {μ : Hp} (hS : Sim pr w0 ng ι μ w) {n : Nat} {us vs : List Value} (hg : μ.get n = some (.cells us 0)) (hv : us.take vs.length = vs) (hp : ∀ v ∈ vs,Pure v) (len c : Nat) : DeepOk (fun b => b < w.heap.size) w (.slv vs len) (conc ι (.slice (some ⟨n,0,none⟩) len c)):=by
 rw [deepOk_slv,conc_slice]
 refine .inr ⟨(ι.loc n).1,(ι.loc n).2 + 0,ι.cap n c,by simp [Ren.addr],fun i u hu => ?_⟩
 have hmem:=List.mem_of_getElem? hu
 have hi:=(List.getElem?_eq_some_iff.1 hu).1
 have hu' : us[i]? = some u:=by
  have e : (us.take vs.length)[i]? = some u:=by rw [hv];exact hu
  rw [List.getElem?_take,if_pos hi] at e
  exact e
 obtain ⟨g1,g2⟩:=kid_cells hS hg hu' (hp u hmem)
 exact ⟨g1,g1,by rw [Nat.add_zero];exact g2,hp u hmem⟩
theorem ref_rowc {μ : Hp} (hS : Sim pr w0 ng ι μ w) {n : Nat} {us : List Value} (hg : μ.get n = some (.cells us 0)) (hp : ∀ v ∈ us,Pure v) (len c : Nat) : DeepOk (fun b => b < w.heap.size) w (.rowc (us.map .val) len c) (conc ι (.slice (some ⟨n,0,none⟩) len c)):=by
 rw [deepOk_rowc,conc_slice]
 refine ⟨(ι.loc n).1,(ι.loc n).2 + 0,ι.ext n,by simp [Ren.addr,Ren.cap],fun i hi => ?_⟩
 have hi' : i < us.length:=by simpa using hi
 obtain ⟨g1,g2⟩:=kid_cells hS hg (List.getElem?_eq_getElem hi') (hp _ (List.getElem_mem hi'))
 refine ⟨g1,g1,us[i],by rw [Nat.add_zero];exact g2,?_⟩
 rw [List.getElem_map,deepOk_val]
 exact ⟨rfl,hp _ (List.getElem_mem hi')⟩
theorem bv_pure {bs : List Int} : ∀ v ∈ bv bs,Pure v:=fun v hv => by
 obtain ⟨b,_,rfl⟩:=List.mem_map.1 hv
 exact pure_int _ _
theorem av_pure {es : List Ent} : ∀ v ∈ av es,Pure v:=fun v hv => by
 obtain ⟨j,_,hj⟩:=rows_mem hv
 simp [cellA] at hj
 rcases hj with rfl | rfl | rfl
 ·exact pure_int _ _
 ·exact fun ι => by simp
 ·exact fun ι => by simp
theorem ro_of_refV {μ : Hp} (hS : Sim pr w0 ng ι μ w) {n : Nat} {vs : List Value} {es : Nat} (hg : μ.get n = some (.cells vs es)) {ds : List Deep} {vs1 vs2 : List Value} (hvs : vs = vs1 ++ vs2) (h : RefV ι w ds vs1) : RoOk (fun b => b < w.heap.size) w (ι.loc n) (.ro ds):=by
 intro i hi
 have hi1 : i < vs1.length:=by rw [← h.1];exact hi
 have hv : vs[i]? = some vs1[i]:=by rw [hvs,List.getElem?_append_left hi1,List.getElem?_eq_getElem hi1]
 obtain ⟨g1,_⟩:=(hS.obj n _ hg).1 i _ hv
 have hlt:=Go.block_lt_of_cell g1
 exact ⟨hlt,hlt,_,g1,h.2 i _ _ (List.getElem?_eq_getElem hi) (List.getElem?_eq_getElem hi1)⟩
theorem vsF_split (l : List Nd) : vsF l = rows (cellN l) l.length ++ rows (fun j => cellN l (l.length + j)) 64:=by
 rw [vsF_rows]
 have rows_add : ∀ (f : Nat → List Value) (n m : Nat),rows f (n + m) = rows f n ++ rows (fun j => f (n + j)) m:=by
  intro f n m
  induction m with
  | zero => simp [rows]
  | succ m ih => rw [← Nat.add_assoc,rows_succ,ih,rows_succ,List.append_assoc]
 exact rows_add _ _ _
theorem nest_words {l l' : List Nd} (hl : l.length < 16777216) {K : Nat → List Value × List Value} (hlen : l'.length = l.length)
  (h : ∀ j (h : j < l.length) (h' : j < l'.length),l'[j].nm = l[j].nm∧l'[j].x = l[j].x∧l'[j].bs.length = l[j].bs.length∧l'[j].es.length = l[j].es.length∧(K j).1.take l'[j].bs.length = bv l'[j].bs∧(K j).2.take (l'[j].es.length * 3) = av l'[j].es) (c : Nat) :
  wordA (mkHp 400000000 (oK l K)) (.slice (some ⟨2,0,none⟩) l.length c) (.d (nodesD l') l'.length):=by
 intro pr w0 ng ι w hS
 obtain ⟨g2,gk⟩:=oK_get hl (K:=K)
 have hr : RefV ι w (nodesD l') (rows (cellN l) l.length):=by
  rw [nodesD,hlen]
  refine RefV.rows fun j hj => ?_
  have hj' : j < l'.length:=by omega
  obtain ⟨h1,h2,h3,h4,h5,h6⟩:=h j hj hj'
  rw [List.getD_eq_getElem?_getD,List.getElem?_eq_getElem hj',Option.getD_some,cellN,List.getElem?_eq_getElem hj]
  simp only [Nd.d,nodeD,nodeV]
  rw [h1,h3,h4,h2]
  exact .cons (ref_str _) (.cons (ref_slv hS (gk j hj).1 (by rw [show (bv l'[j].bs).length = l'[j].bs.length by simp [bv]];exact h5) bv_pure _ _) (.cons (ref_slv hS (gk j hj).2 (by rw [av_len];exact h6) av_pure _ _) (ref_tail _ _ rfl)))
 have hro:=ro_of_refV hS g2 (vsF_split l) hr
 refine ⟨some (ι.addr ⟨2,0,none⟩),ι.cap 2 c,by rw [conc_slice];simp only [Wd.len,hlen],((ι.loc 2).1,(ι.loc 2).2 + 0),.inr rfl,?_⟩
 exact hro
def oR2 (l : List Nd) : List (Nat × AObj):=[(0,.ro (nodesD l)),(1,.word l.length 0),(2,.ro (rowW l (l.length + 64)))]
theorem plainC_pure {r : List Value} (h : r.all atom = true) : ∀ v ∈ r,Pure v:=fun v hv => atom_pure (List.all_eq_true.1 h v hv)
theorem nest_view {l : List Nd} (hl : l.length < 16777216) {pr : Prot} {w0 w : World} {ι : Ren} (hS : Sim pr w0 0 ι (mkHp 400000000 (oK l (K0 l))) w) : Sim Prot.all w 0 { ι with fz:=fun b => b < w.heap.size,wb:=w } (mkHp 400000000 (oR2 l)) w:=by
 obtain ⟨g2,gk⟩:=oK_get hl (K:=K0 l)
 have g0 : (mkHp 400000000 (oK l (K0 l))).get 0 = some (.ro (nodesD l)):=by rw [hp_get (oK_small hl _)];rfl
 have g1 : (mkHp 400000000 (oK l (K0 l))).get 1 = some (.word l.length 0):=by rw [hp_get (oK_small hl _)];rfl
 have hg : ∀ n o,(mkHp 400000000 (oR2 l)).get n = some o → (n = 0∧o = .ro (nodesD l)) ∨ (n = 1∧o = .word l.length 0) ∨ (n = 2∧o = .ro (rowW l (l.length + 64))):=by
  intro n o h
  rw [hp_get rfl] at h
  have:=look_mem _ _ _ h
  simpa only [oR2,List.mem_cons,List.not_mem_nil,or_false,Prod.mk.injEq] using this
 have hr : RefV ι w (rowW l (l.length + 64)) (vsF l):=by
  rw [rowW,vsF_rows]
  refine RefV.rows fun j hj => ?_
  unfold cellW cellN
  by_cases hjl : j < l.length
  ·obtain ⟨k1,k2⟩:=gk j hjl
   simp only [K0,List.getElem?_eq_getElem hjl] at k1 k2
   simp only [List.getElem?_eq_getElem hjl]
   exact .cons (ref_str _) (.cons (ref_rowc hS k1 (plainC_pure (row26_atoms _ _)) _ _) (.cons (ref_rowc hS k2 (plainC_pure (row27_atoms _ _)) _ _) (ref_tail _ _ rfl)))
  ·simp only [List.getElem?_eq_none (Nat.le_of_not_lt hjl)]
   exact .cons (ref_str _) (.cons (by rw [deepOk_val];exact ⟨by simp,fun ι => by simp⟩) (.cons (by rw [deepOk_val];exact ⟨by simp,fun ι => by simp⟩) (ref_tail _ _ rfl)))
 have hro:=ro_of_refV hS g2 (List.append_nil _).symm hr
 refine ⟨rfl,rfl,rfl,Nat.le_refl _,fun _ _ _ => rfl,fun n o h => ?_,fun n o h => ?_,fun n o h hv => ?_,fun n o h hv => ?_,fun n m o o' h _ hv => ?_,hS.lim,fun g h => absurd h (Nat.not_lt_zero _),fun n o h => ?_,fun b h => ⟨h,rfl⟩,fun n o h hv => ?_,fun _ _ _ _ => trivial⟩
 ·rcases hg n o h with ⟨rfl,rfl⟩ | ⟨rfl,rfl⟩ | ⟨rfl,rfl⟩ <;> simp [mkHp]
 ·rcases hg n o h with ⟨rfl,rfl⟩ | ⟨rfl,rfl⟩ | ⟨rfl,rfl⟩
  ·trivial
  ·exact hS.obj 1 _ g1
  ·trivial
 ·rcases hg n o h with ⟨rfl,rfl⟩ | ⟨rfl,rfl⟩ | ⟨rfl,rfl⟩ <;> cases hv
 ·rcases hg n o h with ⟨rfl,rfl⟩ | ⟨rfl,rfl⟩ | ⟨rfl,rfl⟩ <;> cases hv
 ·rcases hg n o h with ⟨rfl,rfl⟩ | ⟨rfl,rfl⟩ | ⟨rfl,rfl⟩ <;> cases hv
 ·rcases hg n o h with ⟨rfl,rfl⟩ | ⟨rfl,rfl⟩ | ⟨rfl,rfl⟩
  ·exact RoOk.mono (fun b hb hp => by obtain ⟨h1,h2⟩:=hS.fro b hp;exact ⟨heap_lt h1 h2,heap_lt h1 h2,h2⟩) (hS.ro 0 _ g0)
  ·trivial
  ·exact hro
 ·rcases hg n o h with ⟨rfl,rfl⟩ | ⟨rfl,rfl⟩ | ⟨rfl,rfl⟩ <;> cases hv
end
end Go.Abs
end
section
namespace Go.Abs
open Go.Proofs
set_option maxRecDepth 100000
def oV (n : Nat) (ds r : List Deep) : List (Nat × AObj):=[(0,.ro ds),(1,.word n 0),(2,.ro r)]
def sV (bs : List Int) (es : List Ent) (nm : ByteArray) (x : Nat → Int) (h : Int) : Sm:=withQ (withQ sm0 6 (pq13 bs es nm x h)) 7 (pq13 bs es nm x h)
def K9 (l : List Nd) : Con:=⟨fun σ => [.slice (some ⟨σ 0,0,none⟩) l.length (2 * (l.length + 64))],oR (rowW l (l.length + 64)),1,fun _ => .bool true,fun _ => []⟩
def gE (l : List Nd) : List Value → Hp → Option (List Value × ConW × Prop):=fun args _ => match args with
 | [x,y] => some ([x,y],K8 l,True)
 | _ => none
noncomputable def sE (l : List Nd) : Sm:=withQ (withS sm0 9 (pv (K9 l))) 8 (fnP (gE l))
theorem V1s_came (n : Nat) (c : Nat) (ds : List Deep) (r : List Deep)  :
  Ran (codeO Tryz.prog E1 (sm0) noRun 100 3 [0,0,1,1,1] (codeAt Tryz.f3 [0,0,1,1,1]) (mkFr 124 (tB n c)) (mkHp 400000000 (oV n ds r)) [] True) (Exit.normal) 124 [(0,Value.chan (some 1)),(2,Value.bool false),(3,Value.slice (some ⟨2,0,none⟩) n c),(4,Value.int .i64 0)] [(0,AObj.ro ds),(1,AObj.word n 0),(2,AObj.ro r)] 400000000 :=
 cameF_of (O:=True) (by kernel_rfl) trivial
theorem V1a_came (n : Nat) (c : Nat) (i : Nat) (ds : List Deep) (r : List Deep) (bs : List Int) (es : List Ent) (nm : ByteArray) (x : Nat → Int) (h : Int) (h0 : decide ((↑i : Int) < (↑n : Int)) = true) (h1 : 0 ≤ (↑i : Int)∧(↑i : Int) < (↑n : Int)) (h2 : List.take 16 (List.drop (0 + Int.toNat (↑i : Int) * 16) r) = nodeW nm bs es x) (h3 : List.take (List.length (bv bs)) (List.drop 0 (List.map Deep.val (row26 bs (List.length bs + 64)))) = List.map Deep.val (bv bs)) (h4 : List.take (List.length (av es)) (List.drop 0 (List.map Deep.val (row27 es (List.length es + 64)))) = List.map Deep.val (av es)) (h5 : List.take 16 (List.drop (0 + Int.toNat (↑i : Int) * 16) ds) = nodeD nm bs es x) (h6 : (h != h) = false) :
  Ran (codeO Tryz.prog E1 (sV bs es nm x h) noRun 100 3 [0,0,1,0,1,1,1] (codeAt Tryz.f3 [0,0,1,0,1,1,1]) (mkFr 124 (tL1 n c i)) (mkHp 400000000 (oV n ds r)) [.skip 4,.b true,.skip 2,.sym,.dp (nodeW nm bs es x),.skip 5,.sym,.dp (nodeD nm bs es x),.skip 2,.b false] True) (Exit.normal) 124 [(0,Value.chan (some 1)),(2,Value.bool false),(3,Value.slice (some ⟨2,0,none⟩) n c),(4,Value.int .i64 (IntKind.wrap .i64 ((↑i : Int) + 1)))] [(0,AObj.ro ds),(1,AObj.word n 0),(2,AObj.ro r),(400000000,AObj.ro (List.map Deep.val (row26 bs (List.length bs + 64)))),(400000001,AObj.ro (List.map Deep.val (row27 es (List.length es + 64)))),(400000002,AObj.rov (bv bs)),(400000003,AObj.word (List.length bs) 400000002),(400000004,AObj.rov (av es)),(400000005,AObj.word (List.length es) 400000004)] 400000006 :=
 cameF_of (O:=let x0:=Array.mk [Value.string nm,Value.slice (some (Addr.mk 400000000 0 none)) (List.length bs) (2 * (List.length bs + 64)),Value.slice (some (Addr.mk 400000001 0 none)) (List.length es) (2 * (List.length es + 64)),Value.int .u32 (x 0),Value.int .u32 (x 1),Value.int .u32 (x 2),Value.int .u32 (x 3),Value.int .u32 (x 4),Value.int .u32 (x 5),Value.int .i32 (x 6),Value.int .i32 (x 7),Value.int .i32 (x 8),Value.int .i64 (x 9),Value.int .i64 (x 10),Value.int .i64 (x 11),Value.int .i32 (x 12)];let x1:=Array.mk [Value.string nm,Value.chan (some 400000003),Value.chan (some 400000005),Value.int .u32 (x 0),Value.int .u32 (x 1),Value.int .u32 (x 2),Value.int .u32 (x 3),Value.int .u32 (x 4),Value.int .u32 (x 5),Value.int .i32 (x 6),Value.int .i32 (x 7),Value.int .i32 (x 8),Value.int .i64 (x 9),Value.int .i64 (x 10),Value.int .i64 (x 11),Value.int .i32 (x 12)];let x2:=Wd.v (bv bs) (List.length bs);let x3:=Wd.v (av es) (List.length es);(((((((True∧decide ((↑i : Int) < (↑n : Int)) = true)∧0 ≤ (↑i : Int)∧(↑i : Int) < (↑n : Int))∧List.take 16 (List.drop (0 + Int.toNat (↑i : Int) * 16) r) = nodeW nm bs es x)∧[Value.agg x0] = [Value.agg x0]∧(Wd.len x2 = Wd.len x2∧List.take (List.length (bv bs)) (List.drop 0 (List.map Deep.val (row26 bs (List.length bs + 64)))) = List.map Deep.val (bv bs))∧(Wd.len x3 = Wd.len x3∧List.take (List.length (av es)) (List.drop 0 (List.map Deep.val (row27 es (List.length es + 64)))) = List.map Deep.val (av es))∧True)∧0 ≤ (↑i : Int)∧(↑i : Int) < (↑n : Int))∧List.take 16 (List.drop (0 + Int.toNat (↑i : Int) * 16) ds) = nodeD nm bs es x)∧[Value.agg x1] = [Value.agg x1]∧(Wd.len x2 = Wd.len x2∧bv bs = bv bs)∧(Wd.len x3 = Wd.len x3∧av es = av es)∧True)∧(h != h) = false) (by kernel_rfl) ⟨⟨⟨⟨⟨⟨⟨⟨trivial,h0⟩,h1⟩,h2⟩,⟨rfl,⟨⟨rfl,h3⟩,⟨⟨rfl,h4⟩,trivial⟩⟩⟩⟩,h1⟩,h5⟩,⟨rfl,⟨⟨rfl,rfl⟩,⟨⟨rfl,rfl⟩,trivial⟩⟩⟩⟩,h6⟩
theorem V1b_came (n : Nat) (c : Nat) (i : Nat) (ds : List Deep) (r : List Deep) (h0 : decide ((↑i : Int) < (↑n : Int)) = false) :
  Ran (codeO Tryz.prog E1 (sm0) noRun 100 3 [0,0,1,0,1,1,1] (codeAt Tryz.f3 [0,0,1,0,1,1,1]) (mkFr 124 (tL1 n c i)) (mkHp 400000000 (oV n ds r)) [.skip 4,.b false] True) (Exit.exit 0) 124 [(0,Value.chan (some 1)),(2,Value.bool false),(3,Value.slice (some ⟨2,0,none⟩) n c)] [(0,AObj.ro ds),(1,AObj.word n 0),(2,AObj.ro r)] 400000000 :=
 cameF_of (O:=(True∧decide ((↑i : Int) < (↑n : Int)) = false)) (by kernel_rfl) ⟨trivial,h0⟩
theorem V2_came (l : List Nd) (c : Nat) (h0 : List.take (List.length (prefW l)) (List.drop 0 (rowW l (List.length l + 64))) = prefW l) :
  Ran (codeO Tryz.prog E1 (sE l) noRun 100 3 [0,1,1,1,1] (codeAt Tryz.f3 [0,1,1,1,1]) (mkFr 124 (tB (List.length l) (2 * (List.length l + 64) - 0))) (mkHp 400000000 (oV (List.length l) (nodesD l) (rowW l (List.length l + 64)))) [] True) (Exit.normal) 124 [(0,Value.chan (some 1)),(2,Value.bool false),(3,Value.slice (some ⟨2,0,none⟩) (List.length l) (2 * (List.length l + 64) - 0))] [(0,AObj.ro (nodesD l)),(1,AObj.word (List.length l) 0),(2,AObj.ro (rowW l (List.length l + 64)))] 400000000 :=
 cameF_of (O:=let x0:=Wd.d (nodesD l) (List.length l);let x1:=Wd.d (prefW l) (List.length l);let x2:=2 * (List.length l + 64) - 0;let x3:=2 * (List.length l + 64);(True∧True∧[Value.slice (some (Addr.mk 2 0 none)) (List.length l) x2,Value.chan (some 1)] = [Value.slice (some (Addr.mk 2 0 none)) (List.length l) x2,Value.chan (some 1)]∧(Wd.len x1 = Wd.len x1∧List.take (List.length (prefW l)) (List.drop 0 (rowW l (List.length l + 64))) = prefW l)∧(Wd.len x0 = Wd.len x0∧nodesD l = nodesD l)∧True)∧([Value.slice (some (Addr.mk 2 0 none)) (List.length l) x3] = [Value.slice (some (Addr.mk 2 0 none)) (List.length l) x3]∧true = true∧true = true)∧rowW l (List.length l + 64) = rowW l (List.length l + 64)∧True) (by kernel_rfl) ⟨⟨trivial,⟨trivial,⟨rfl,⟨⟨rfl,h0⟩,⟨⟨rfl,rfl⟩,trivial⟩⟩⟩⟩⟩,⟨⟨rfl,⟨rfl,rfl⟩⟩,⟨rfl,trivial⟩⟩⟩
theorem sV_ok {pr : Prot} {w0 : World} (hG : Tab pr w0) {nd : Nd} (h : nd.ok) : SmOk Tryz.prog E1 pr w0 (sV nd.bs nd.es nd.nm nd.x nd.val) :=
 withQ_ok (withQ_ok (sm0_ok pr w0) (pq13_ok hG (con13' (nm:=nd.nm) (x:=nd.x) h).toT)) (pq13_ok hG (con14' (nm:=nd.nm) (x:=nd.x) h).toT)
theorem sE_ok {pr : Prot} {w0 : World} (hG : Tab pr w0) {l : List Nd} (hl : l.length < 16777216) (hs : ∀ nd ∈ l,nd.small) : SmOk Tryz.prog E1 pr w0 (sE l):=by
 refine withQ_ok (withS_ok (sm0_ok pr w0) (pv_ok hG (con9 (by omega) hs))) (fnP_ok tab_stands hG fun args μ X c p h hp => ?_)
 unfold gE at h
 split at h
 ·cases h;exact ⟨con8 (by omega) hs,fun _ => rfl,fun _ => rfl,pure_bool _⟩
 ·cases h
theorem rowW_get {l : List Nd} {k : Nat} (h : k < l.length) : List.take 16 (List.drop (0 + Int.toNat (k : Int) * 16) (rowW l (l.length + 64))) = nodeW l[k].nm l[k].bs l[k].es l[k].x:=by
 rw [Nat.zero_add,Int.toNat_natCast,rowW,rows_at (s:=16) (fun j _ => cellW_len l j) (by omega)]
 simp only [cellW,List.getElem?_eq_getElem h,Nd.w]
theorem oV_bd {l : List Nd} : ∀ p ∈ oV l.length (nodesD l) (rowW l (l.length + 64)),p.1 < 400000000∧BdO 400000000 p.2:=by
 intro p hp
 simp only [oV,List.mem_cons,List.not_mem_nil,or_false] at hp
 rcases hp with rfl | rfl | rfl
 ·exact ⟨by simp,trivial⟩
 ·exact ⟨by simp,by simp [BdO]⟩
 ·exact ⟨by simp,trivial⟩
theorem tL1_ok (n c i : Nat) : ∀ p ∈ tL1 n c i,Bd 400000000 p.2∧look (tL1 n c i) p.1 = some p.2:=by
 intro p hp
 simp only [tL1,List.mem_cons,List.not_mem_nil,or_false] at hp
 rcases hp with rfl | rfl | rfl | rfl <;> simp [tL1,look]
theorem shapeA : codeAt Tryz.f3 [0,1,1,1] = .seq (codeAt Tryz.f3 [0,0,1,1,1]) (.block 0 (.loop (codeAt Tryz.f3 [0,0,1,0,1,1,1]))):=by kernel_rfl
theorem lawLoop1 {l : List Nd} (hl : l.length < 16777216) (hok : ∀ nd ∈ l,nd.ok) (c : Nat) {pr : Prot} {w0 : World} (hG : Tab pr w0) {N : Nat} (hN : N ≤ 400000000) :
  Tri Tryz.prog pr w0 N (codeAt Tryz.f3 [0,1,1,1]) (mkFr 124 (tB l.length c)) (mkHp 400000000 (oV l.length (nodesD l) (rowW l (l.length + 64)))) fun e f m => e = .normal∧f = mkFr 124 (tB l.length c):=by
 have h1:=tri_came_via hP1.hE hP1.ng hP1.mix (sm0_ok pr w0) noRun_ok (hhX [0,0,1,1,1] (by kernel_rfl)) (V1s_came l.length c (nodesD l) (rowW l (l.length + 64))).of (fun n => n) (ts:=tL1 l.length c 0) (os:=oV l.length (nodesD l) (rowW l (l.length + 64))) (next:=400000000) (fun p hp => by rw [upV_id];revert p;simp [tL1]) (fun p hp => by rw [upO_id];revert p;simp [oV]) (fun p _ q _ h => h) (by simp) rfl rfl (fun p hp => (tL1_ok _ _ _ p hp).1) oV_bd (by decide) (N:=N) (fun _ _ => rfl) hN
 rw [shapeA]
 refine tri_seq h1 (tri_block (Φ:=fun e f m => e = .exit 0∧f = mkFr 124 (tB l.length c)) ?_ (fun f m h => ⟨rfl,h.2⟩) (fun e f m hne h => absurd h.1 hne))
 refine tri_loop (T:={ i : Nat // i ≤ l.length }) (fun t => mkFr 124 (tL1 l.length c t.1)) (fun _ => mkHp 400000000 (oV l.length (nodesD l) (rowW l (l.length + 64)))) (fun t => l.length - t.1) ?_ ⟨0,Nat.zero_le _⟩
 rintro ⟨i,hi⟩
 simp only
 have hh:=hhX [0,0,1,0,1,1,1] (by kernel_rfl)
 by_cases hlt : i < l.length
 ·have hc:=V1a_came l.length c i (nodesD l) (rowW l (l.length + 64)) l[i].bs l[i].es l[i].nm l[i].x l[i].val (by simp;omega) (by omega) (rowW_get hlt) (take26 _) (take27 _) (nodesD_get hlt) (by simp)
  rw [i64_succ (by omega)] at hc
  have h:=tri_came_via hP1.hE hP1.ng hP1.mix (sV_ok hG (hok _ (List.getElem_mem hlt))) noRun_ok hh hc.of (fun n => n) (ts:=tL1 l.length c (i + 1)) (os:=oV l.length (nodesD l) (rowW l (l.length + 64))) (next:=400000000) (fun p hp => by rw [upV_id];revert p;simp [tL1]) (fun p hp => by rw [upO_id];revert p;simp [oV]) (fun p _ q _ h => h) (by simp) rfl rfl (fun p hp => (tL1_ok _ _ _ p hp).1) oV_bd (by decide) (N:=N) (fun _ _ => rfl) hN
  refine h.weaken ?_
  rintro e f m ⟨rfl,rfl,rfl⟩
  exact .inl (.inl ⟨rfl,⟨i + 1,hlt⟩,rfl,rfl,by simp only;omega⟩)
 ·obtain rfl : i = l.length:=by omega
  have h:=tri_came_via hP1.hE hP1.ng hP1.mix (sm0_ok pr w0) noRun_ok hh (V1b_came l.length c l.length (nodesD l) (rowW l (l.length + 64)) (by simp)).of (fun n => n) (ts:=tB l.length c) (os:=oV l.length (nodesD l) (rowW l (l.length + 64))) (next:=400000000) (fun p hp => by rw [upV_id];revert p;simp [tB]) (fun p hp => by rw [upO_id];revert p;simp [oV]) (fun p _ q _ h => h) (by simp) rfl rfl (fun p hp => (tB_ok _ _ p hp).1) oV_bd (by decide) (N:=N) (fun _ _ => rfl) hN
  refine h.weaken ?_
  rintro e f m ⟨rfl,rfl,rfl⟩
  exact .inl (.inr ⟨by simp,rfl,rfl⟩)
theorem lawLook {l : List Nd} (hl : l.length < 16777216) (hs : ∀ nd ∈ l,nd.small) {pr : Prot} {w0 : World} (hG : Tab pr w0) {N : Nat} (hN : N ≤ 400000000) :
  Tri Tryz.prog pr w0 N (codeAt Tryz.f3 [0,1,1,1,1]) (mkFr 124 (tB l.length (2 * (l.length + 64) - 0))) (mkHp 400000000 (oV l.length (nodesD l) (rowW l (l.length + 64)))) fun e f m => e = .normal∧f = mkFr 124 (tB l.length (2 * (l.length + 64) - 0)):=by
 have h:=tri_came_via hP1.hE hP1.ng hP1.mix (sE_ok hG hl hs) noRun_ok (hhX [0,1,1,1,1] (by kernel_rfl)) (V2_came l 0 (rowW_take (by omega))).of (fun n => n) (ts:=tB l.length (2 * (l.length + 64) - 0)) (os:=oV l.length (nodesD l) (rowW l (l.length + 64))) (next:=400000000) (fun p hp => by rw [upV_id];revert p;simp [tB]) (fun p hp => by rw [upO_id];revert p;simp [oV]) (fun p _ q _ h => h) (by simp) rfl rfl (fun p hp => (tB_ok _ _ p hp).1) oV_bd (by decide) (N:=N) (fun _ _ => rfl) hN
 exact h.weaken fun e f m h => .inl ⟨h.1,h.2.1⟩
theorem lawA1 {l : List Nd} (hl : l.length < 16777216) (hok : ∀ nd ∈ l,nd.ok) (hs : ∀ nd ∈ l,nd.small) {pr : Prot} {w0 : World} (hG : Tab pr w0) {N : Nat} (c : Nat) :
  Tri Tryz.prog pr w0 N (codeAt Tryz.f3 [0,1,1,1]) (mkFr 124 (tB l.length c)) (mkHp 400000000 (oK l (K0 l))) fun e f m => e = .normal∧f = mkFr 124 (tB l.length c)∧m = mkHp 400000000 (oK l (K0 l)) :=
 tri_view tab_stands hG (by simp) (μv:=mkHp 400000000 (oR2 l)) rfl (fun pr w0 ι w hS => nest_view hl hS) rfl (fun p hp => (tB_ok _ _ p hp).1) (fun pr w0 hG => lawLoop1 hl hok c hG (Nat.le_refl _))
theorem lawA2 {l : List Nd} (hl : l.length < 16777216) (hs : ∀ nd ∈ l,nd.small) {pr : Prot} {w0 : World} (hG : Tab pr w0) {N : Nat} :
  Tri Tryz.prog pr w0 N (codeAt Tryz.f3 [0,1,1,1,1]) (mkFr 124 (tB l.length (2 * (l.length + 64) - 0))) (mkHp 400000000 (oK l (K0 l))) fun e f m => e = .normal∧f = mkFr 124 (tB l.length (2 * (l.length + 64) - 0))∧m = mkHp 400000000 (oK l (K0 l)) :=
 tri_view tab_stands hG (by simp) (μv:=mkHp 400000000 (oR2 l)) rfl (fun pr w0 ι w hS => nest_view hl hS) rfl (fun p hp => (tB_ok _ _ p hp).1) (fun pr w0 hG => lawLook hl hs hG (Nat.le_refl _))
end Go.Abs
end
section
namespace Go.Abs
open Go.Proofs
set_option maxRecDepth 100000
def tCc0 (k : Nat) : List (Nat × Value):=[(0,.chan (some 1)),(2,.slice none 0 0),(3,.slice none 0 0),(4,.int .i64 k)]
def tCc (k : Nat) : List (Nat × Value):=[(0,.chan (some 1)),(2,.slice none 0 0),(3,.slice (some ⟨2,0,none⟩) k (2 * k + 1)),(4,.int .i64 k)]
def oCc0 (n : Nat) (vs : List Value) : List (Nat × AObj):=[(0,.rov vs),(1,.word n 0)]
def oCc (n : Nat) (vs us : List Value) (es : Nat) : List (Nat × AObj):=[(0,.rov vs),(1,.word n 0),(2,.cells us es)]
def tCe (n : Nat) : List (Nat × Value):=[(3,.slice (some ⟨2,0,none⟩) n (2 * n + 1))]
def tCn : List (Nat × Value):=[(3,.slice none 0 0)]
def q29cr (n : Nat) (vs us : List Value) : Sm:=withL sm0 29 [1,0,1,1] (piece 19 (tCc0 0) (oCc0 n vs) 2 .normal (mkFr 19 (tCe n)) (mkHp 3 (oCc n vs us 1)))
def q29cn (n : Nat) (vs : List Value) : Sm:=withL sm0 29 [1,0,1,1] (piece 19 (tCc0 0) (oCc0 n vs) 2 .normal (mkFr 19 tCn) (mkHp 2 (oCc0 n vs)))
def q30cr (n : Nat) (vs us : List Value) : Sm:=withL sm0 30 [1,0,1,1] (piece 19 (tCc0 0) (oCc0 n vs) 2 .normal (mkFr 19 (tCe n)) (mkHp 3 (oCc n vs us 3)))
def q30cn (n : Nat) (vs : List Value) : Sm:=withL sm0 30 [1,0,1,1] (piece 19 (tCc0 0) (oCc0 n vs) 2 .normal (mkFr 19 tCn) (mkHp 2 (oCc0 n vs)))
theorem b29ca_came (n : Nat) (k : Nat) (vs : List Value) (b : Int) (h0 : decide ((↑k : Int) < (↑n : Int)) = true) (h1 : 0 ≤ (↑k : Int)∧(↑k : Int) < (↑n : Int)) (h2 : vs[0 + Int.toNat (↑k : Int) * 1]? = some (Value.int .u8 b)) :
  Ran (codeO Tryz.prog E1 (sm0) noRun 100 29 [0,0,1,0,1,1] (codeAt Tryz.f29 [0,0,1,0,1,1]) (mkFr 19 (tCc0 k)) (mkHp 2 (oCc0 n vs)) [.skip 4,.b true,.skip 3,.sym,.v (Value.int .u8 b)] True) (Exit.normal) 19 [(0,Value.chan (some 1)),(2,Value.slice none 0 0),(3,Value.slice (some ⟨3,0,none⟩) 1 3),(4,Value.int .i64 (IntKind.wrap .i64 ((↑k : Int) + 1)))] [(0,AObj.rov vs),(1,AObj.word n 0),(2,AObj.cells [Value.int .u8 b] 0),(3,AObj.cells [Value.int .u8 b] 1)] 4 :=
 cameF_of (O:=(((True∧decide ((↑k : Int) < (↑n : Int)) = true)∧0 ≤ (↑k : Int)∧(↑k : Int) < (↑n : Int))∧vs[0 + Int.toNat (↑k : Int) * 1]? = some (Value.int .u8 b))) (by kernel_rfl) ⟨⟨⟨trivial,h0⟩,h1⟩,h2⟩
theorem b29cb_came (n : Nat) (k : Nat) (vs : List Value) (us : List Value) (b : Int) (h0 : decide ((↑k : Int) < (↑n : Int)) = true) (h1 : 0 ≤ (↑k : Int)∧(↑k : Int) < (↑n : Int)) (h2 : vs[0 + Int.toNat (↑k : Int) * 1]? = some (Value.int .u8 b)) (h3 : 1 ≤ 1∧0 + k * 1 ≤ List.length us∧capOf (2 * k + 1) < k + 1∧(k + 1) * 1 ≤ 140737488355328∧k + 1 ≤ 4611686018427387904∧List.length (List.take (k * 1) (List.drop 0 us)) = k * 1∧1 = 1∧true = true∧capOpen (2 * k + 1) = true∧1 = 1∧0 + capOf (2 * k + 1) * 1 = List.length us) :
  Ran (codeO Tryz.prog E1 (sm0) noRun 100 29 [0,0,1,0,1,1] (codeAt Tryz.f29 [0,0,1,0,1,1]) (mkFr 19 (tCc k)) (mkHp 3 (oCc n vs us 1)) [.skip 4,.b true,.skip 3,.sym,.v (Value.int .u8 b),.skip 1,.grow true] True) (Exit.normal) 19 [(0,Value.chan (some 1)),(2,Value.slice none 0 0),(3,Value.slice (some ⟨4,0,none⟩) (k + 1) (2 * (k + 1) + 1)),(4,Value.int .i64 (IntKind.wrap .i64 ((↑k : Int) + 1)))] [(0,AObj.rov vs),(1,AObj.word n 0),(2,AObj.dead),(3,AObj.cells [Value.int .u8 b] 0),(4,AObj.cells (List.take (k * 1) (List.drop 0 us) ++ List.take 1 (List.drop 0 [Value.int .u8 b])) 1)] 5 :=
 cameF_of (O:=((((True∧decide ((↑k : Int) < (↑n : Int)) = true)∧0 ≤ (↑k : Int)∧(↑k : Int) < (↑n : Int))∧vs[0 + Int.toNat (↑k : Int) * 1]? = some (Value.int .u8 b))∧1 ≤ 1∧0 + k * 1 ≤ List.length us∧capOf (2 * k + 1) < k + 1∧(k + 1) * 1 ≤ 140737488355328∧k + 1 ≤ 4611686018427387904∧List.length (List.take (k * 1) (List.drop 0 us)) = k * 1∧1 = 1∧true = true∧capOpen (2 * k + 1) = true∧1 = 1∧0 + capOf (2 * k + 1) * 1 = List.length us)) (by kernel_rfl) ⟨⟨⟨⟨trivial,h0⟩,h1⟩,h2⟩,h3⟩
theorem b29cx_came (n : Nat) (k : Nat) (vs : List Value) (us : List Value) (h0 : decide ((↑k : Int) < (↑n : Int)) = false) :
  Ran (codeO Tryz.prog E1 (sm0) noRun 100 29 [0,0,1,0,1,1] (codeAt Tryz.f29 [0,0,1,0,1,1]) (mkFr 19 (tCc k)) (mkHp 3 (oCc n vs us 1)) [.skip 4,.b false] True) (Exit.exit 0) 19 [(3,Value.slice (some ⟨2,0,none⟩) k (2 * k + 1))] [(0,AObj.rov vs),(1,AObj.word n 0),(2,AObj.cells us 1)] 3 :=
 cameF_of (O:=(True∧decide ((↑k : Int) < (↑n : Int)) = false)) (by kernel_rfl) ⟨trivial,h0⟩
theorem b29cy_came (n : Nat) (k : Nat) (vs : List Value) (h0 : decide ((↑k : Int) < (↑n : Int)) = false) :
  Ran (codeO Tryz.prog E1 (sm0) noRun 100 29 [0,0,1,0,1,1] (codeAt Tryz.f29 [0,0,1,0,1,1]) (mkFr 19 (tCc0 k)) (mkHp 2 (oCc0 n vs)) [.skip 4,.b false] True) (Exit.exit 0) 19 [(3,Value.slice none 0 0)] [(0,AObj.rov vs),(1,AObj.word n 0)] 2 :=
 cameF_of (O:=(True∧decide ((↑k : Int) < (↑n : Int)) = false)) (by kernel_rfl) ⟨trivial,h0⟩
theorem c29r_came (n : Nat) (vs : List Value) (us : List Value)  :
  RanC (runO Tryz.prog E1 (q29cr n vs us) noRun 100 29 [Value.chan (some 1)] (mkHp 2 (wordsOs [Wd.v vs n] 0 fun n => n)) [] True) (.returned (Value.slice (some ⟨2,0,none⟩) n (2 * n + 1))) [(0,AObj.rov vs),(1,AObj.word n 0),(2,AObj.cells us 1)] 3 :=
 cameCF_of (O:=(True∧SelfP 19 (tCc0 0) (oCc0 n vs) 2)) (by kernel_rfl) ⟨trivial,selfP_true _ _ _ _⟩
theorem c29n_came (n : Nat) (vs : List Value)  :
  RanC (runO Tryz.prog E1 (q29cn n vs) noRun 100 29 [Value.chan (some 1)] (mkHp 2 (wordsOs [Wd.v vs n] 0 fun n => n)) [] True) (.returned (Value.slice none 0 0)) [(0,AObj.rov vs),(1,AObj.word n 0)] 2 :=
 cameCF_of (O:=(True∧SelfP 19 (tCc0 0) (oCc0 n vs) 2)) (by kernel_rfl) ⟨trivial,selfP_true _ _ _ _⟩
theorem b30ca_came (n : Nat) (k : Nat) (vs : List Value) (p : Int) (s : ByteArray) (d : ByteArray) (h0 : decide ((↑k : Int) < (↑n : Int)) = true) (h1 : 0 ≤ (↑k : Int)∧(↑k : Int) < (↑n : Int)) (h2 : List.take 3 (List.drop (0 + Int.toNat (↑k : Int) * 3) vs) = [Value.int .i8 p,Value.string s,Value.string d]) :
  Ran (codeO Tryz.prog E1 (sm0) noRun 100 30 [0,0,1,0,1,1] (codeAt Tryz.f30 [0,0,1,0,1,1]) (mkFr 19 (tCc0 k)) (mkHp 2 (oCc0 n vs)) [.skip 4,.b true,.skip 3,.sym,.l [Value.int .i8 p,Value.string s,Value.string d]] True) (Exit.normal) 19 [(0,Value.chan (some 1)),(2,Value.slice none 0 0),(3,Value.slice (some ⟨3,0,none⟩) 1 3),(4,Value.int .i64 (IntKind.wrap .i64 ((↑k : Int) + 1)))] [(0,AObj.rov vs),(1,AObj.word n 0),(2,AObj.cells [Value.int .i8 p,Value.string s,Value.string d] 0),(3,AObj.cells [Value.int .i8 p,Value.string s,Value.string d] 3)] 4 :=
 cameF_of (O:=(((True∧decide ((↑k : Int) < (↑n : Int)) = true)∧0 ≤ (↑k : Int)∧(↑k : Int) < (↑n : Int))∧List.take 3 (List.drop (0 + Int.toNat (↑k : Int) * 3) vs) = [Value.int .i8 p,Value.string s,Value.string d])) (by kernel_rfl) ⟨⟨⟨trivial,h0⟩,h1⟩,h2⟩
theorem b30cb_came (n : Nat) (k : Nat) (vs : List Value) (us : List Value) (p : Int) (s : ByteArray) (d : ByteArray) (h0 : decide ((↑k : Int) < (↑n : Int)) = true) (h1 : 0 ≤ (↑k : Int)∧(↑k : Int) < (↑n : Int)) (h2 : List.take 3 (List.drop (0 + Int.toNat (↑k : Int) * 3) vs) = [Value.int .i8 p,Value.string s,Value.string d]) (h3 : 3 ≤ 3∧0 + k * 3 ≤ List.length us∧capOf (2 * k + 1) < k + 1∧(k + 1) * 40 ≤ 140737488355328∧k + 1 ≤ 4611686018427387904∧List.length (List.take (k * 3) (List.drop 0 us)) = k * 3∧3 = 3∧true = true∧capOpen (2 * k + 1) = true∧3 = 3∧0 + capOf (2 * k + 1) * 3 = List.length us) :
  Ran (codeO Tryz.prog E1 (sm0) noRun 100 30 [0,0,1,0,1,1] (codeAt Tryz.f30 [0,0,1,0,1,1]) (mkFr 19 (tCc k)) (mkHp 3 (oCc n vs us 3)) [.skip 4,.b true,.skip 3,.sym,.l [Value.int .i8 p,Value.string s,Value.string d],.skip 1,.grow true] True) (Exit.normal) 19 [(0,Value.chan (some 1)),(2,Value.slice none 0 0),(3,Value.slice (some ⟨4,0,none⟩) (k + 1) (2 * (k + 1) + 1)),(4,Value.int .i64 (IntKind.wrap .i64 ((↑k : Int) + 1)))] [(0,AObj.rov vs),(1,AObj.word n 0),(2,AObj.dead),(3,AObj.cells [Value.int .i8 p,Value.string s,Value.string d] 0),(4,AObj.cells (List.take (k * 3) (List.drop 0 us) ++ List.take 3 (List.drop 0 [Value.int .i8 p,Value.string s,Value.string d])) 3)] 5 :=
 cameF_of (O:=((((True∧decide ((↑k : Int) < (↑n : Int)) = true)∧0 ≤ (↑k : Int)∧(↑k : Int) < (↑n : Int))∧List.take 3 (List.drop (0 + Int.toNat (↑k : Int) * 3) vs) = [Value.int .i8 p,Value.string s,Value.string d])∧3 ≤ 3∧0 + k * 3 ≤ List.length us∧capOf (2 * k + 1) < k + 1∧(k + 1) * 40 ≤ 140737488355328∧k + 1 ≤ 4611686018427387904∧List.length (List.take (k * 3) (List.drop 0 us)) = k * 3∧3 = 3∧true = true∧capOpen (2 * k + 1) = true∧3 = 3∧0 + capOf (2 * k + 1) * 3 = List.length us)) (by kernel_rfl) ⟨⟨⟨⟨trivial,h0⟩,h1⟩,h2⟩,h3⟩
theorem b30cx_came (n : Nat) (k : Nat) (vs : List Value) (us : List Value) (h0 : decide ((↑k : Int) < (↑n : Int)) = false) :
  Ran (codeO Tryz.prog E1 (sm0) noRun 100 30 [0,0,1,0,1,1] (codeAt Tryz.f30 [0,0,1,0,1,1]) (mkFr 19 (tCc k)) (mkHp 3 (oCc n vs us 3)) [.skip 4,.b false] True) (Exit.exit 0) 19 [(3,Value.slice (some ⟨2,0,none⟩) k (2 * k + 1))] [(0,AObj.rov vs),(1,AObj.word n 0),(2,AObj.cells us 3)] 3 :=
 cameF_of (O:=(True∧decide ((↑k : Int) < (↑n : Int)) = false)) (by kernel_rfl) ⟨trivial,h0⟩
theorem b30cy_came (n : Nat) (k : Nat) (vs : List Value) (h0 : decide ((↑k : Int) < (↑n : Int)) = false) :
  Ran (codeO Tryz.prog E1 (sm0) noRun 100 30 [0,0,1,0,1,1] (codeAt Tryz.f30 [0,0,1,0,1,1]) (mkFr 19 (tCc0 k)) (mkHp 2 (oCc0 n vs)) [.skip 4,.b false] True) (Exit.exit 0) 19 [(3,Value.slice none 0 0)] [(0,AObj.rov vs),(1,AObj.word n 0)] 2 :=
 cameF_of (O:=(True∧decide ((↑k : Int) < (↑n : Int)) = false)) (by kernel_rfl) ⟨trivial,h0⟩
theorem c30r_came (n : Nat) (vs : List Value) (us : List Value)  :
  RanC (runO Tryz.prog E1 (q30cr n vs us) noRun 100 30 [Value.chan (some 1)] (mkHp 2 (wordsOs [Wd.v vs n] 0 fun n => n)) [] True) (.returned (Value.slice (some ⟨2,0,none⟩) n (2 * n + 1))) [(0,AObj.rov vs),(1,AObj.word n 0),(2,AObj.cells us 3)] 3 :=
 cameCF_of (O:=(True∧SelfP 19 (tCc0 0) (oCc0 n vs) 2)) (by kernel_rfl) ⟨trivial,selfP_true _ _ _ _⟩
theorem c30n_came (n : Nat) (vs : List Value)  :
  RanC (runO Tryz.prog E1 (q30cn n vs) noRun 100 30 [Value.chan (some 1)] (mkHp 2 (wordsOs [Wd.v vs n] 0 fun n => n)) [] True) (.returned (Value.slice none 0 0)) [(0,AObj.rov vs),(1,AObj.word n 0)] 2 :=
 cameCF_of (O:=(True∧SelfP 19 (tCc0 0) (oCc0 n vs) 2)) (by kernel_rfl) ⟨trivial,selfP_true _ _ _ _⟩
def tCk : Nat → List (Nat × Value)
 | 0 => tCc0 0
 | k + 1 => tCc (k + 1)
def nCk : Nat → Nat
 | 0 => 2
 | _ + 1 => 3
theorem cap_odd (k : Nat) : capOf (2 * k + 1) = k∧capOpen (2 * k + 1) = true:=by
 constructor
 ·unfold capOf;omega
 ·unfold capOpen
  rw [show (2 * k + 1) % 2 = 1 by omega];rfl
theorem tC_bd (k N : Nat) (h : 3 ≤ N) : ∀ p ∈ tCc k,Bd N p.2:=by
 intro p hp
 simp only [tCc,List.mem_cons,List.not_mem_nil,or_false] at hp
 rcases hp with rfl | rfl | rfl | rfl <;> simp <;> omega
theorem tC0_bd (k N : Nat) (h : 2 ≤ N) : ∀ p ∈ tCc0 k,Bd N p.2:=by
 intro p hp
 simp only [tCc0,List.mem_cons,List.not_mem_nil,or_false] at hp
 rcases hp with rfl | rfl | rfl | rfl <;> simp <;> omega
def fB (bs : List Int) (j : Nat) : List Value:=[.int .u8 (bs.getD j 0)]
def fA (es : List Ent) (j : Nat) : List Value:=cellA (es.getD j (0,⟨#[]⟩,⟨#[]⟩))
theorem fB_plain (bs : List Int) (k : Nat) : PlainC (rows (fB bs) k):=fun v hv => by
 obtain ⟨j,_,hj⟩:=rows_mem hv
 simp only [fB,List.mem_cons,List.not_mem_nil,or_false] at hj
 subst hj
 exact ⟨by simp,by simp [upV]⟩
theorem fA_plain (es : List Ent) (k : Nat) : PlainC (rows (fA es) k):=fun v hv => by
 obtain ⟨j,_,hj⟩:=rows_mem hv
 simp only [fA,cellA,List.mem_cons,List.not_mem_nil,or_false] at hj
 rcases hj with rfl | rfl | rfl <;> exact ⟨by simp,by simp [upV]⟩
theorem fB_row (bs : List Int) : rows (fB bs) bs.length = bv bs:=(bv_rows bs).symm
theorem fA_row (es : List Ent) : rows (fA es) es.length = av es:=rfl
theorem bvB (bs : List Int) : bv bs = rows (fB bs) bs.length:=bv_rows bs
theorem avA (es : List Ent) : av es = rows (fA es) es.length:=rfl
def oC29k (bs : List Int) : Nat → List (Nat × AObj)
 | 0 => oCc0 bs.length (bv bs)
 | k + 1 => oCc bs.length (bv bs) (rows (fB bs) (k + 1)) 1
theorem fits29c (bs : List Int) : ∀ k,Fits 2 (tCk k) (oC29k bs k) (nCk k)
 | 0 => ⟨rfl,rfl,tC0_bd 0 2 (by decide),by simp [oC29k,oCc0,nCk,BdO],by decide,by decide⟩
 | k + 1 => by
  refine ⟨rfl,rfl,tC_bd _ 3 (by decide),fun p hp => ?_,by simp only [nCk];decide,by simp only [nCk];decide⟩
  simp only [oC29k,oCc,List.mem_cons,List.not_mem_nil,or_false] at hp
  rcases hp with rfl | rfl | rfl
  ·exact ⟨by simp [nCk],trivial⟩
  ·exact ⟨by simp [nCk],by simp [BdO,nCk]⟩
  ·exact ⟨by simp [nCk],fun v hv => ((fB_plain bs _) v hv).1 _⟩
theorem loop29c (bs : List Int) (hb : bs.length < 1099511627776) {pr : Prot} {w0 : World} {Ψ : Post} (hΨ : (bs.length = 0 → Ψ (.exit 0) (mkFr 19 tCn) (mkHp 2 (oCc0 bs.length (bv bs))))∧(bs.length ≠ 0 → Ψ (.exit 0) (mkFr 19 (tCe bs.length)) (mkHp 3 (oCc bs.length (bv bs) (bv bs) 1)))) :
  Tri Tryz.prog pr w0 2 (.loop (codeAt Tryz.f29 [0,0,1,0,1,1])) (mkFr 19 (tCc0 0)) (mkHp 2 (oCc0 bs.length (bv bs))) Ψ:=by
 have hh : Here E1 29 [0,0,1,0,1,1] (codeAt Tryz.f29 [0,0,1,0,1,1]):=codeAt_here (fn:=Tryz.f29) (by kernel_rfl) (by kernel_rfl)
 refine rounds_tri (T:={ k : Nat // k ≤ bs.length }) ⟨19,fun t => tCk t.1,fun t => oC29k bs t.1,fun t => nCk t.1,fun t => bs.length - t.1⟩ ?_ ⟨0,Nat.zero_le _⟩
 rintro ⟨k,hk⟩
 by_cases hlt : k < bs.length
 ·cases k with
  | zero =>
   have hc:=b29ca_came bs.length 0 (bv bs) (bs.getD 0 0) (by simp;omega) (by simp;omega) (by rw [show 0 + Int.toNat ((0 : Nat) : Int) * 1 = 0 * 1 by simp,Nat.mul_one,bvB,rows_at1 (fun _ _ => rfl) hlt];rfl)
   refine on_via hP1 (sm0_ok pr w0) hh hc (fun n => if n = 2 then 3 else n) ⟨1,hlt⟩ ?_ ?_ ?_ (fun n hn => by show (if n = 2 then 3 else n) = n;rw [if_neg (by omega)]) (by simp only;omega) (fits29c bs 1)
   ·intro p hp
    simp only [tCk,tCc,List.mem_cons,List.not_mem_nil,or_false] at hp
    rcases hp with rfl | rfl | rfl | rfl <;> simp [upV,i64_small]
   ·intro p hp
    simp only [oC29k,oCc,List.mem_cons,List.not_mem_nil,or_false] at hp
    rcases hp with rfl | rfl | rfl <;> simp [upO,rows,fB,upV]
   ·intro p hp q hq hne
    simp only [oC29k,oCc,List.mem_cons,List.not_mem_nil,or_false] at hp hq
    rcases hp with rfl | rfl | rfl <;> rcases hq with rfl | rfl | rfl <;> simp at hne ⊢
  | succ k =>
   have hul : (rows (fB bs) (k + 1)).length = (k + 1) * 1:=rows_length (s:=1) fun _ _ => rfl
   obtain ⟨c1,c2⟩:=cap_odd (k + 1)
   have hc:=b29cb_came bs.length (k + 1) (bv bs) (rows (fB bs) (k + 1)) (bs.getD (k + 1) 0) (by simp;omega) (by omega) (by rw [show 0 + Int.toNat ((k + 1 : Nat) : Int) * 1 = (k + 1) * 1 by simp,Nat.mul_one,bvB,rows_at1 (fun _ _ => rfl) hlt];rfl) ⟨by decide,by rw [hul];omega,by rw [c1];omega,by omega,by omega,by rw [List.drop_zero,List.take_of_length_le (by rw [hul];exact Nat.le_refl _),hul],rfl,rfl,c2,rfl,by rw [c1,hul];omega⟩
   rw [List.drop_zero,List.drop_zero,List.take_of_length_le (by rw [hul];exact Nat.le_refl _),i64_succ (by omega)] at hc
   refine on_via hP1 (sm0_ok pr w0) hh hc (fun n => if n = 2 then 4 else n) ⟨k + 2,hlt⟩ ?_ ?_ ?_ (fun n hn => by show (if n = 2 then 4 else n) = n;rw [if_neg (by omega)]) (by simp only;omega) (fits29c bs (k + 2))
   ·intro p hp
    simp only [tCk,tCc,List.mem_cons,List.not_mem_nil,or_false] at hp
    rcases hp with rfl | rfl | rfl | rfl <;> simp [upV]
   ·intro p hp
    simp only [oC29k,oCc,List.mem_cons,List.not_mem_nil,or_false] at hp
    rcases hp with rfl | rfl | rfl
    ·simp [upO]
    ·simp [upO]
    ·simp only [upO,(fB_plain bs _).map]
     rw [show rows (fB bs) (k + 1 + 1) = rows (fB bs) (k + 1) ++ fB bs (k + 1) from rows_succ _ _]
     simp [fB]
   ·intro p hp q hq hne
    simp only [oC29k,oCc,List.mem_cons,List.not_mem_nil,or_false] at hp hq
    rcases hp with rfl | rfl | rfl <;> rcases hq with rfl | rfl | rfl <;> simp at hne ⊢
 ·obtain rfl : k = bs.length:=by omega
  show Tri _ _ _ _ _ (mkFr 19 (tCk bs.length)) (mkHp (nCk bs.length) (oC29k bs bs.length)) _
  have z0 : ∀ k,k = 0 → oC29k bs k = oCc0 bs.length (bv bs)∧tCk k = tCc0 0∧nCk k = 2:=by rintro _ rfl;exact ⟨rfl,rfl,rfl⟩
  have z1 : ∀ k,k ≠ 0 → oC29k bs k = oCc bs.length (bv bs) (rows (fB bs) k) 1∧tCk k = tCc k∧nCk k = 3:=by
   intro k hk
   cases k with
   | zero => exact absurd rfl hk
   | succ k => exact ⟨rfl,rfl,rfl⟩
  by_cases h0 : bs.length = 0
  ·obtain ⟨e1,e2,e3⟩:=z0 _ h0
   rw [e1,e2,e3]
   have hc:=b29cy_came bs.length 0 (bv bs) (by simp only [decide_eq_false_iff_not];omega)
   refine (tri_came hP1.hE hP1.ng hP1.mix (sm0_ok pr w0) noRun_ok hh hc.of (by simp) rfl rfl (by simp) (by simp [BdO]) (by decide) (by decide)).weaken ?_
   rintro e f m ⟨rfl,rfl,rfl⟩
   exact .inl (.inr ⟨by simp,hΨ.1 h0⟩)
  ·obtain ⟨e1,e2,e3⟩:=z1 _ h0
   rw [e1,e2,e3]
   have hc:=b29cx_came bs.length bs.length (bv bs) (rows (fB bs) bs.length) (by simp)
   refine (tri_came hP1.hE hP1.ng hP1.mix (sm0_ok pr w0) noRun_ok hh hc.of (by simp) rfl rfl (by simp) (fun p hp => ?_) (by decide) (by decide)).weaken ?_
   ·simp only [List.mem_cons,List.not_mem_nil,or_false] at hp
    rcases hp with rfl | rfl | rfl
    ·exact ⟨by simp,trivial⟩
    ·exact ⟨by simp,by simp [BdO]⟩
    ·exact ⟨by simp,fun v hv => ((fB_plain bs _) v hv).1 _⟩
   ·rintro e f m ⟨rfl,rfl,rfl⟩
    have:=hΨ.2 h0
    rw [oCc,tCe] at this
    exact .inl (.inr ⟨by simp,by simpa only [fB_row] using this⟩)
def oC30k (bs : List Ent) : Nat → List (Nat × AObj)
 | 0 => oCc0 bs.length (av bs)
 | k + 1 => oCc bs.length (av bs) (rows (fA bs) (k + 1)) 3
theorem fits30c (bs : List Ent) : ∀ k,Fits 2 (tCk k) (oC30k bs k) (nCk k)
 | 0 => ⟨rfl,rfl,tC0_bd 0 2 (by decide),by simp [oC30k,oCc0,nCk,BdO],by decide,by decide⟩
 | k + 1 => by
  refine ⟨rfl,rfl,tC_bd _ 3 (by decide),fun p hp => ?_,by simp only [nCk];decide,by simp only [nCk];decide⟩
  simp only [oC30k,oCc,List.mem_cons,List.not_mem_nil,or_false] at hp
  rcases hp with rfl | rfl | rfl
  ·exact ⟨by simp [nCk],trivial⟩
  ·exact ⟨by simp [nCk],by simp [BdO,nCk]⟩
  ·exact ⟨by simp [nCk],fun v hv => ((fA_plain bs _) v hv).1 _⟩
theorem loop30c (bs : List Ent) (hb : bs.length < 1099511627776) {pr : Prot} {w0 : World} {Ψ : Post} (hΨ : (bs.length = 0 → Ψ (.exit 0) (mkFr 19 tCn) (mkHp 2 (oCc0 bs.length (av bs))))∧(bs.length ≠ 0 → Ψ (.exit 0) (mkFr 19 (tCe bs.length)) (mkHp 3 (oCc bs.length (av bs) (av bs) 3)))) :
  Tri Tryz.prog pr w0 2 (.loop (codeAt Tryz.f30 [0,0,1,0,1,1])) (mkFr 19 (tCc0 0)) (mkHp 2 (oCc0 bs.length (av bs))) Ψ:=by
 have hh : Here E1 30 [0,0,1,0,1,1] (codeAt Tryz.f30 [0,0,1,0,1,1]):=codeAt_here (fn:=Tryz.f30) (by kernel_rfl) (by kernel_rfl)
 refine rounds_tri (T:={ k : Nat // k ≤ bs.length }) ⟨19,fun t => tCk t.1,fun t => oC30k bs t.1,fun t => nCk t.1,fun t => bs.length - t.1⟩ ?_ ⟨0,Nat.zero_le _⟩
 rintro ⟨k,hk⟩
 by_cases hlt : k < bs.length
 ·cases k with
  | zero =>
   have hc:=b30ca_came bs.length 0 (av bs) (bs.getD 0 (0,⟨#[]⟩,⟨#[]⟩)).1 (bs.getD 0 (0,⟨#[]⟩,⟨#[]⟩)).2.1 (bs.getD 0 (0,⟨#[]⟩,⟨#[]⟩)).2.2 (by simp;omega) (by simp;omega) (by rw [show 0 + Int.toNat ((0 : Nat) : Int) * 3 = 0 * 3 by simp,avA,rows_at (s:=3) (fun _ _ => rfl) hlt];rfl)
   refine on_via hP1 (sm0_ok pr w0) hh hc (fun n => if n = 2 then 3 else n) ⟨1,hlt⟩ ?_ ?_ ?_ (fun n hn => by show (if n = 2 then 3 else n) = n;rw [if_neg (by omega)]) (by simp only;omega) (fits30c bs 1)
   ·intro p hp
    simp only [tCk,tCc,List.mem_cons,List.not_mem_nil,or_false] at hp
    rcases hp with rfl | rfl | rfl | rfl <;> simp [upV,i64_small]
   ·intro p hp
    simp only [oC30k,oCc,List.mem_cons,List.not_mem_nil,or_false] at hp
    rcases hp with rfl | rfl | rfl <;> simp [upO,rows,fA,cellA,upV]
   ·intro p hp q hq hne
    simp only [oC30k,oCc,List.mem_cons,List.not_mem_nil,or_false] at hp hq
    rcases hp with rfl | rfl | rfl <;> rcases hq with rfl | rfl | rfl <;> simp at hne ⊢
  | succ k =>
   have hul : (rows (fA bs) (k + 1)).length = (k + 1) * 3:=rows_length (s:=3) fun _ _ => rfl
   obtain ⟨c1,c2⟩:=cap_odd (k + 1)
   have hc:=b30cb_came bs.length (k + 1) (av bs) (rows (fA bs) (k + 1)) (bs.getD (k + 1) (0,⟨#[]⟩,⟨#[]⟩)).1 (bs.getD (k + 1) (0,⟨#[]⟩,⟨#[]⟩)).2.1 (bs.getD (k + 1) (0,⟨#[]⟩,⟨#[]⟩)).2.2 (by simp;omega) (by omega) (by rw [show 0 + Int.toNat ((k + 1 : Nat) : Int) * 3 = (k + 1) * 3 by simp,avA,rows_at (s:=3) (fun _ _ => rfl) hlt];rfl) ⟨by decide,by rw [hul];omega,by rw [c1];omega,by omega,by omega,by rw [List.drop_zero,List.take_of_length_le (by rw [hul];exact Nat.le_refl _),hul],rfl,rfl,c2,rfl,by rw [c1,hul];omega⟩
   rw [List.drop_zero,List.drop_zero,List.take_of_length_le (by rw [hul];exact Nat.le_refl _),i64_succ (by omega)] at hc
   refine on_via hP1 (sm0_ok pr w0) hh hc (fun n => if n = 2 then 4 else n) ⟨k + 2,hlt⟩ ?_ ?_ ?_ (fun n hn => by show (if n = 2 then 4 else n) = n;rw [if_neg (by omega)]) (by simp only;omega) (fits30c bs (k + 2))
   ·intro p hp
    simp only [tCk,tCc,List.mem_cons,List.not_mem_nil,or_false] at hp
    rcases hp with rfl | rfl | rfl | rfl <;> simp [upV]
   ·intro p hp
    simp only [oC30k,oCc,List.mem_cons,List.not_mem_nil,or_false] at hp
    rcases hp with rfl | rfl | rfl
    ·simp [upO]
    ·simp [upO]
    ·simp only [upO,(fA_plain bs _).map]
     rw [show rows (fA bs) (k + 1 + 1) = rows (fA bs) (k + 1) ++ fA bs (k + 1) from rows_succ _ _]
     simp [fA,cellA]
   ·intro p hp q hq hne
    simp only [oC30k,oCc,List.mem_cons,List.not_mem_nil,or_false] at hp hq
    rcases hp with rfl | rfl | rfl <;> rcases hq with rfl | rfl | rfl <;> simp at hne ⊢
 ·obtain rfl : k = bs.length:=by omega
  show Tri _ _ _ _ _ (mkFr 19 (tCk bs.length)) (mkHp (nCk bs.length) (oC30k bs bs.length)) _
  have z0 : ∀ k,k = 0 → oC30k bs k = oCc0 bs.length (av bs)∧tCk k = tCc0 0∧nCk k = 2:=by rintro _ rfl;exact ⟨rfl,rfl,rfl⟩
  have z1 : ∀ k,k ≠ 0 → oC30k bs k = oCc bs.length (av bs) (rows (fA bs) k) 3∧tCk k = tCc k∧nCk k = 3:=by
   intro k hk
   cases k with
   | zero => exact absurd rfl hk
   | succ k => exact ⟨rfl,rfl,rfl⟩
  by_cases h0 : bs.length = 0
  ·obtain ⟨e1,e2,e3⟩:=z0 _ h0
   rw [e1,e2,e3]
   have hc:=b30cy_came bs.length 0 (av bs) (by simp only [decide_eq_false_iff_not];omega)
   refine (tri_came hP1.hE hP1.ng hP1.mix (sm0_ok pr w0) noRun_ok hh hc.of (by simp) rfl rfl (by simp) (by simp [BdO]) (by decide) (by decide)).weaken ?_
   rintro e f m ⟨rfl,rfl,rfl⟩
   exact .inl (.inr ⟨by simp,hΨ.1 h0⟩)
  ·obtain ⟨e1,e2,e3⟩:=z1 _ h0
   rw [e1,e2,e3]
   have hc:=b30cx_came bs.length bs.length (av bs) (rows (fA bs) bs.length) (by simp)
   refine (tri_came hP1.hE hP1.ng hP1.mix (sm0_ok pr w0) noRun_ok hh hc.of (by simp) rfl rfl (by simp) (fun p hp => ?_) (by decide) (by decide)).weaken ?_
   ·simp only [List.mem_cons,List.not_mem_nil,or_false] at hp
    rcases hp with rfl | rfl | rfl
    ·exact ⟨by simp,trivial⟩
    ·exact ⟨by simp,by simp [BdO]⟩
    ·exact ⟨by simp,fun v hv => ((fA_plain bs _) v hv).1 _⟩
   ·rintro e f m ⟨rfl,rfl,rfl⟩
    have:=hΨ.2 h0
    rw [oCc,tCe] at this
    exact .inl (.inr ⟨by simp,by simpa only [fA_row] using this⟩)
def K29c (bs : List Int) : ConW:=⟨fun X => [X 0],[.v (bv bs) bs.length],fun σ => if bs.length = 0 then .slice none 0 0 else .slice (some ⟨σ 2,0,none⟩) bs.length (2 * bs.length + 1),fun _ => if bs.length = 0 then [] else [.cells (bv bs) 1]⟩
theorem con29c {G : Prot → World → Prop} {bs : List Int} (hb : bs.length < 1099511627776) : ConWG G Tryz.prog 29 (K29c bs):=by
 have hpl : PlainC (bv bs):=by rw [bvB];exact fB_plain _ _
 have hbo : ∀ p ∈ oCc bs.length (bv bs) (bv bs) 1,p.1 < 3∧BdO 3 p.2:=by
  intro p hp
  simp only [oCc,List.mem_cons,List.not_mem_nil,or_false] at hp
  rcases hp with rfl | rfl | rfl
  ·exact ⟨by simp,trivial⟩
  ·exact ⟨by simp,by simp [BdO]⟩
  ·exact ⟨by simp,fun v hv => (hpl v hv).1 _⟩
 by_cases h0 : bs.length = 0
 ·have e : K29c bs = ⟨fun X => [X 0],[.v (bv bs) bs.length],fun _ => .slice none 0 0,fun _ => []⟩:=by simp only [K29c,h0,if_true]
  rw [e]
  refine conW_read hP1 (s:=q29cn bs.length (bv bs)) (fun pr w0 hG => withL_ok (sm0_ok pr w0) (fn:=Tryz.f29) (c:=.block 0 (.loop (codeAt Tryz.f29 [0,0,1,0,1,1]))) (by kernel_rfl) (by kernel_rfl) ?_) (c29n_came bs.length (bv bs)) (by simp [limit]) ⟨rfl,rfl,by simp,by simp [BdO],by simp [limit],by simp⟩ (by simp) (fun ι => by simp) (by intro ι ι' f g h;simp [h 0 (by simp)]) (by intro σ;simp [upV])
  refine block_end ⟨rfl,rfl,tC0_bd 0 2 (by decide),by simp [oCc0,BdO],by decide,by decide⟩ (loop29c bs hb ⟨fun _ => ⟨rfl,rfl,rfl⟩,fun h => absurd h0 h⟩)
 ·have e : K29c bs = ⟨fun X => [X 0],[.v (bv bs) bs.length],fun σ => .slice (some ⟨σ 2,0,none⟩) bs.length (2 * bs.length + 1),fun _ => [.cells (bv bs) 1]⟩:=by simp only [K29c,h0,if_false]
  rw [e]
  refine conW_run hP1 (s:=q29cr bs.length (bv bs) (bv bs)) (fun pr w0 hG => withL_ok (sm0_ok pr w0) (fn:=Tryz.f29) (c:=.block 0 (.loop (codeAt Tryz.f29 [0,0,1,0,1,1]))) (by kernel_rfl) (by kernel_rfl) ?_) (c29r_came bs.length (bv bs) (bv bs)) (by simp [limit]) ⟨rfl,rfl,by simp,hbo,by simp [limit],by simp⟩ (by simp) (by simp) (by intro ι ι' f g h;simp [h 0 (by simp)]) (by intro σ;simp [upV]) (by intro σ;simp [upO,hpl.map]) (by simp) (fun j o hj => ?_)
  ·refine block_end ⟨rfl,rfl,tC0_bd 0 2 (by decide),by simp [oCc0,BdO],by decide,by decide⟩ (loop29c bs hb ⟨fun h => absurd h h0,fun _ => ⟨rfl,rfl,rfl⟩⟩)
  ·match j,hj with
   | 0,hj => exact hj
   | j + 1,hj => simp at hj
def K30c (bs : List Ent) : ConW:=⟨fun X => [X 0],[.v (av bs) bs.length],fun σ => if bs.length = 0 then .slice none 0 0 else .slice (some ⟨σ 2,0,none⟩) bs.length (2 * bs.length + 1),fun _ => if bs.length = 0 then [] else [.cells (av bs) 3]⟩
theorem con30c {G : Prot → World → Prop} {bs : List Ent} (hb : bs.length < 1099511627776) : ConWG G Tryz.prog 30 (K30c bs):=by
 have hpl : PlainC (av bs):=by rw [avA];exact fA_plain _ _
 have hbo : ∀ p ∈ oCc bs.length (av bs) (av bs) 3,p.1 < 3∧BdO 3 p.2:=by
  intro p hp
  simp only [oCc,List.mem_cons,List.not_mem_nil,or_false] at hp
  rcases hp with rfl | rfl | rfl
  ·exact ⟨by simp,trivial⟩
  ·exact ⟨by simp,by simp [BdO]⟩
  ·exact ⟨by simp,fun v hv => (hpl v hv).1 _⟩
 by_cases h0 : bs.length = 0
 ·have e : K30c bs = ⟨fun X => [X 0],[.v (av bs) bs.length],fun _ => .slice none 0 0,fun _ => []⟩:=by simp only [K30c,h0,if_true]
  rw [e]
  refine conW_read hP1 (s:=q30cn bs.length (av bs)) (fun pr w0 hG => withL_ok (sm0_ok pr w0) (fn:=Tryz.f30) (c:=.block 0 (.loop (codeAt Tryz.f30 [0,0,1,0,1,1]))) (by kernel_rfl) (by kernel_rfl) ?_) (c30n_came bs.length (av bs)) (by simp [limit]) ⟨rfl,rfl,by simp,by simp [BdO],by simp [limit],by simp⟩ (by simp) (fun ι => by simp) (by intro ι ι' f g h;simp [h 0 (by simp)]) (by intro σ;simp [upV])
  refine block_end ⟨rfl,rfl,tC0_bd 0 2 (by decide),by simp [oCc0,BdO],by decide,by decide⟩ (loop30c bs hb ⟨fun _ => ⟨rfl,rfl,rfl⟩,fun h => absurd h0 h⟩)
 ·have e : K30c bs = ⟨fun X => [X 0],[.v (av bs) bs.length],fun σ => .slice (some ⟨σ 2,0,none⟩) bs.length (2 * bs.length + 1),fun _ => [.cells (av bs) 3]⟩:=by simp only [K30c,h0,if_false]
  rw [e]
  refine conW_run hP1 (s:=q30cr bs.length (av bs) (av bs)) (fun pr w0 hG => withL_ok (sm0_ok pr w0) (fn:=Tryz.f30) (c:=.block 0 (.loop (codeAt Tryz.f30 [0,0,1,0,1,1]))) (by kernel_rfl) (by kernel_rfl) ?_) (c30r_came bs.length (av bs) (av bs)) (by simp [limit]) ⟨rfl,rfl,by simp,hbo,by simp [limit],by simp⟩ (by simp) (by simp) (by intro ι ι' f g h;simp [h 0 (by simp)]) (by intro σ;simp [upV]) (by intro σ;simp [upO,hpl.map]) (by simp) (fun j o hj => ?_)
  ·refine block_end ⟨rfl,rfl,tC0_bd 0 2 (by decide),by simp [oCc0,BdO],by decide,by decide⟩ (loop30c bs hb ⟨fun h => absurd h h0,fun _ => ⟨rfl,rfl,rfl⟩⟩)
  ·match j,hj with
   | 0,hj => exact hj
   | j + 1,hj => simp at hj
end Go.Abs
end
section
namespace Go.Abs
open Go.Proofs
set_option maxRecDepth 100000
def K29w (bs : List Int) : ConW:=⟨fun X => [X 0],[.v (bv bs) bs.length],fun σ => .chan (some (σ 3)),fun σ => [.rov (bv bs),.word bs.length (σ 2)]⟩
def K30w (es : List Ent) : ConW:=⟨fun X => [X 0],[.v (av es) es.length],fun σ => .chan (some (σ 3)),fun σ => [.rov (av es),.word es.length (σ 2)]⟩
def sC (bs : List Int) (es : List Ent) : Sm:=withS (withS sm0 29 (fun args μ => viewW args (K29w bs) args μ)) 30 (fun args μ => viewW args (K30w es) args μ)
def tN0 (k : Nat) : List (Nat × Value):=[(0,.chan (some 1)),(2,.slice none 0 0),(3,.slice none 0 0),(4,.int .i64 k)]
def tN (k : Nat) : List (Nat × Value):=[(0,.chan (some 1)),(2,.slice none 0 0),(3,.slice (some ⟨2,0,none⟩) k (2 * k + 1)),(4,.int .i64 k)]
def oN0 (n : Nat) (ds : List Deep) : List (Nat × AObj):=[(0,.ro ds),(1,.word n 0)]
def oN (n : Nat) (ds : List Deep) (us : List Value) : List (Nat × AObj):=[(0,.ro ds),(1,.word n 0),(2,.cells us 16)]
theorem r10a_came (n : Nat) (k : Nat) (ds : List Deep) (bs : List Int) (es : List Ent) (nm : ByteArray) (x : Nat → Int) (h0 : decide ((↑k : Int) < (↑n : Int)) = true) (h1 : 0 ≤ (↑k : Int)∧(↑k : Int) < (↑n : Int)) (h2 : List.take 16 (List.drop (0 + Int.toNat (↑k : Int) * 16) ds) = nodeD nm bs es x) :
    Ran (codeO Tryz.prog E1 (sC bs es) noRun 100 10 [0,0,1,0,1,1] (codeAt Tryz.f10 [0,0,1,0,1,1]) (mkFr 29 (tN0 k)) (mkHp 400000000 (oN0 n ds)) [.skip 4,.b true,.skip 2,.sym,.dp (nodeD nm bs es x)] True) (Exit.normal) 29 [(0,Value.chan (some 1)),(2,Value.slice none 0 0),(3,Value.slice (some ⟨400000014,0,none⟩) 1 3),(4,Value.int .i64 (IntKind.wrap .i64 ((↑k : Int) + 1)))] [(0,AObj.ro ds),(1,AObj.word n 0),(400000000,AObj.rov (bv bs)),(400000001,AObj.word (List.length bs) 400000000),(400000002,AObj.rov (av es)),(400000003,AObj.word (List.length es) 400000002),(400000004,AObj.cells [Value.string nm,Value.chan (some 400000008),Value.chan (some 400000012),Value.int .u32 (x 0),Value.int .u32 (x 1),Value.int .u32 (x 2),Value.int .u32 (x 3),Value.int .u32 (x 4),Value.int .u32 (x 5),Value.int .i32 (x 6),Value.int .i32 (x 7),Value.int .i32 (x 8),Value.int .i64 (x 9),Value.int .i64 (x 10),Value.int .i64 (x 11),Value.int .i32 (x 12)] 0),(400000005,AObj.rov (bv bs)),(400000006,AObj.word (List.length bs) 400000005),(400000007,AObj.rov (bv bs)),(400000008,AObj.word (List.length bs) 400000007),(400000009,AObj.rov (av es)),(400000010,AObj.word (List.length es) 400000009),(400000011,AObj.rov (av es)),(400000012,AObj.word (List.length es) 400000011),(400000013,AObj.cells [Value.string nm,Value.chan (some 400000008),Value.chan (some 400000012),Value.int .u32 (x 0),Value.int .u32 (x 1),Value.int .u32 (x 2),Value.int .u32 (x 3),Value.int .u32 (x 4),Value.int .u32 (x 5),Value.int .i32 (x 6),Value.int .i32 (x 7),Value.int .i32 (x 8),Value.int .i64 (x 9),Value.int .i64 (x 10),Value.int .i64 (x 11),Value.int .i32 (x 12)] 0),(400000014,AObj.cells [Value.string nm,Value.chan (some 400000008),Value.chan (some 400000012),Value.int .u32 (x 0),Value.int .u32 (x 1),Value.int .u32 (x 2),Value.int .u32 (x 3),Value.int .u32 (x 4),Value.int .u32 (x 5),Value.int .i32 (x 6),Value.int .i32 (x 7),Value.int .i32 (x 8),Value.int .i64 (x 9),Value.int .i64 (x 10),Value.int .i64 (x 11),Value.int .i32 (x 12)] 16)] 400000015 :=
  cameF_of (O:=let x0:=Wd.v (bv bs) (List.length bs);let x1:=Wd.v (av es) (List.length es);((((True∧decide ((↑k : Int) < (↑n : Int)) = true)∧0 ≤ (↑k : Int)∧(↑k : Int) < (↑n : Int))∧List.take 16 (List.drop (0 + Int.toNat (↑k : Int) * 16) ds) = nodeD nm bs es x)∧[Value.chan (some 400000001)] = [Value.chan (some 400000001)]∧(Wd.len x0 = Wd.len x0∧bv bs = bv bs)∧True)∧[Value.chan (some 400000003)] = [Value.chan (some 400000003)]∧(Wd.len x1 = Wd.len x1∧av es = av es)∧True) (by kernel_rfl) ⟨⟨⟨⟨⟨trivial,h0⟩,h1⟩,h2⟩,⟨rfl,⟨⟨rfl,rfl⟩,trivial⟩⟩⟩,⟨rfl,⟨⟨rfl,rfl⟩,trivial⟩⟩⟩
theorem r10b_came (n : Nat) (k : Nat) (ds : List Deep) (us : List Value) (bs : List Int) (es : List Ent) (nm : ByteArray) (x : Nat → Int) (h0 : decide ((↑k : Int) < (↑n : Int)) = true) (h1 : 0 ≤ (↑k : Int)∧(↑k : Int) < (↑n : Int)) (h2 : List.take 16 (List.drop (0 + Int.toNat (↑k : Int) * 16) ds) = nodeD nm bs es x) (h3 : 16 ≤ 16∧0 + k * 16 ≤ List.length us∧capOf (2 * k + 1) < k + 1∧(k + 1) * 136 ≤ 140737488355328∧k + 1 ≤ 4611686018427387904∧List.length (List.take (k * 16) (List.drop 0 us)) = k * 16∧16 = 16∧true = true∧capOpen (2 * k + 1) = true∧16 = 16∧0 + capOf (2 * k + 1) * 16 = List.length us) :
    Ran (codeO Tryz.prog E1 (sC bs es) noRun 100 10 [0,0,1,0,1,1] (codeAt Tryz.f10 [0,0,1,0,1,1]) (mkFr 29 (tN k)) (mkHp 400000000 (oN n ds us)) [.skip 4,.b true,.skip 2,.sym,.dp (nodeD nm bs es x),.skip 15,.grow true] True) (Exit.normal) 29 [(0,Value.chan (some 1)),(2,Value.slice none 0 0),(3,Value.slice (some ⟨400000014,0,none⟩) (k + 1) (2 * (k + 1) + 1)),(4,Value.int .i64 (IntKind.wrap .i64 ((↑k : Int) + 1)))] [(0,AObj.ro ds),(1,AObj.word n 0),(2,AObj.dead),(400000000,AObj.rov (bv bs)),(400000001,AObj.word (List.length bs) 400000000),(400000002,AObj.rov (av es)),(400000003,AObj.word (List.length es) 400000002),(400000004,AObj.cells [Value.string nm,Value.chan (some 400000008),Value.chan (some 400000012),Value.int .u32 (x 0),Value.int .u32 (x 1),Value.int .u32 (x 2),Value.int .u32 (x 3),Value.int .u32 (x 4),Value.int .u32 (x 5),Value.int .i32 (x 6),Value.int .i32 (x 7),Value.int .i32 (x 8),Value.int .i64 (x 9),Value.int .i64 (x 10),Value.int .i64 (x 11),Value.int .i32 (x 12)] 0),(400000005,AObj.rov (bv bs)),(400000006,AObj.word (List.length bs) 400000005),(400000007,AObj.rov (bv bs)),(400000008,AObj.word (List.length bs) 400000007),(400000009,AObj.rov (av es)),(400000010,AObj.word (List.length es) 400000009),(400000011,AObj.rov (av es)),(400000012,AObj.word (List.length es) 400000011),(400000013,AObj.cells [Value.string nm,Value.chan (some 400000008),Value.chan (some 400000012),Value.int .u32 (x 0),Value.int .u32 (x 1),Value.int .u32 (x 2),Value.int .u32 (x 3),Value.int .u32 (x 4),Value.int .u32 (x 5),Value.int .i32 (x 6),Value.int .i32 (x 7),Value.int .i32 (x 8),Value.int .i64 (x 9),Value.int .i64 (x 10),Value.int .i64 (x 11),Value.int .i32 (x 12)] 0),(400000014,AObj.cells (List.take (k * 16) (List.drop 0 us) ++ List.take 16 (List.drop 0 [Value.string nm,Value.chan (some 400000008),Value.chan (some 400000012),Value.int .u32 (x 0),Value.int .u32 (x 1),Value.int .u32 (x 2),Value.int .u32 (x 3),Value.int .u32 (x 4),Value.int .u32 (x 5),Value.int .i32 (x 6),Value.int .i32 (x 7),Value.int .i32 (x 8),Value.int .i64 (x 9),Value.int .i64 (x 10),Value.int .i64 (x 11),Value.int .i32 (x 12)])) 16)] 400000015 :=
  cameF_of (O:=let x0:=Wd.v (bv bs) (List.length bs);let x1:=Wd.v (av es) (List.length es);(((((True∧decide ((↑k : Int) < (↑n : Int)) = true)∧0 ≤ (↑k : Int)∧(↑k : Int) < (↑n : Int))∧List.take 16 (List.drop (0 + Int.toNat (↑k : Int) * 16) ds) = nodeD nm bs es x)∧[Value.chan (some 400000001)] = [Value.chan (some 400000001)]∧(Wd.len x0 = Wd.len x0∧bv bs = bv bs)∧True)∧[Value.chan (some 400000003)] = [Value.chan (some 400000003)]∧(Wd.len x1 = Wd.len x1∧av es = av es)∧True)∧16 ≤ 16∧0 + k * 16 ≤ List.length us∧capOf (2 * k + 1) < k + 1∧(k + 1) * 136 ≤ 140737488355328∧k + 1 ≤ 4611686018427387904∧List.length (List.take (k * 16) (List.drop 0 us)) = k * 16∧16 = 16∧true = true∧capOpen (2 * k + 1) = true∧16 = 16∧0 + capOf (2 * k + 1) * 16 = List.length us) (by kernel_rfl) ⟨⟨⟨⟨⟨⟨trivial,h0⟩,h1⟩,h2⟩,⟨rfl,⟨⟨rfl,rfl⟩,trivial⟩⟩⟩,⟨rfl,⟨⟨rfl,rfl⟩,trivial⟩⟩⟩,h3⟩
theorem r10x_came (n : Nat) (k : Nat) (ds : List Deep) (us : List Value) (h0 : decide ((↑k : Int) < (↑n : Int)) = false) :
    Ran (codeO Tryz.prog E1 (sm0) noRun 100 10 [0,0,1,0,1,1] (codeAt Tryz.f10 [0,0,1,0,1,1]) (mkFr 29 (tN k)) (mkHp 400000000 (oN n ds us)) [.skip 4,.b false] True) (Exit.exit 0) 29 [(0,Value.chan (some 1)),(2,Value.slice none 0 0),(3,Value.slice (some ⟨2,0,none⟩) k (2 * k + 1))] [(0,AObj.ro ds),(1,AObj.word n 0),(2,AObj.cells us 16)] 400000000 :=
  cameF_of (O:=(True∧decide ((↑k : Int) < (↑n : Int)) = false)) (by kernel_rfl) ⟨trivial,h0⟩
theorem r10y_came (n : Nat) (k : Nat) (ds : List Deep) (h0 : decide ((↑k : Int) < (↑n : Int)) = false) :
    Ran (codeO Tryz.prog E1 (sm0) noRun 100 10 [0,0,1,0,1,1] (codeAt Tryz.f10 [0,0,1,0,1,1]) (mkFr 29 (tN0 k)) (mkHp 400000000 (oN0 n ds)) [.skip 4,.b false] True) (Exit.exit 0) 29 [(0,Value.chan (some 1)),(2,Value.slice none 0 0),(3,Value.slice none 0 0)] [(0,AObj.ro ds),(1,AObj.word n 0)] 400000000 :=
  cameF_of (O:=(True∧decide ((↑k : Int) < (↑n : Int)) = false)) (by kernel_rfl) ⟨trivial,h0⟩
theorem r10s_came (n : Nat) (ds : List Deep)  :
    Ran (codeO Tryz.prog E1 (sm0) noRun 100 10 [0,0,1,1] (codeAt Tryz.f10 [0,0,1,1]) (mkFr 29 [(0,Value.chan (some 1)),(2,Value.slice none 0 0),(3,Value.slice none 0 0)]) (mkHp 2 (oN0 n ds)) [] True) (Exit.normal) 29 [(0,Value.chan (some 1)),(2,Value.slice none 0 0),(3,Value.slice none 0 0),(4,Value.int .i64 0)] [(0,AObj.ro ds),(1,AObj.word n 0)] 2 :=
  cameF_of (O:=True) (by kernel_rfl) trivial
theorem r10e_came (n : Nat) (ds : List Deep) (us : List Value) (k : Nat)  :
    Ran (codeO Tryz.prog E1 (sm0) noRun 100 10 [1,1,1] (codeAt Tryz.f10 [1,1,1]) (mkFr 29 [(0,Value.chan (some 1)),(2,Value.slice none 0 0),(3,Value.slice (some ⟨2,0,none⟩) k (2 * k + 1))]) (mkHp 400000000 (oN n ds us)) [] True) (Exit.ret) 29 [(2,Value.slice (some ⟨2,0,none⟩) k (2 * k + 1))] [(0,AObj.ro ds),(1,AObj.word n 0),(2,AObj.cells us 16)] 400000000 :=
  cameF_of (O:=True) (by kernel_rfl) trivial
theorem r10z_came (n : Nat) (ds : List Deep)  :
    Ran (codeO Tryz.prog E1 (sm0) noRun 100 10 [1,1,1] (codeAt Tryz.f10 [1,1,1]) (mkFr 29 [(0,Value.chan (some 1)),(2,Value.slice none 0 0),(3,Value.slice none 0 0)]) (mkHp 400000000 (oN0 n ds)) [] True) (Exit.ret) 29 [(2,Value.slice none 0 0)] [(0,AObj.ro ds),(1,AObj.word n 0)] 400000000 :=
  cameF_of (O:=True) (by kernel_rfl) trivial
theorem atoms_rf {vs us : List Value} {es : Nat} {μ : Hp} {n len c : Nat} (hg : μ.get n = some (.cells vs es)) (hp : ∀ v ∈ vs,Pure v) : wordZ μ (.slice (some ⟨n,0,none⟩) len c) (.v vs len):=by
  intro pr w0 ι w hS F hF hlv
  refine ⟨_,_,conc_slice ι _ _ _,((ι.loc n).1,(ι.loc n).2 + 0),.inr rfl,fun i u hu => ?_⟩
  obtain ⟨h1,_⟩:=(hS.obj n _ hg).1 _ _ hu
  have hpu:=hp u (List.mem_of_getElem? hu)
  rw [(hpu ι).1] at h1
  exact ⟨Go.block_lt_of_cell h1,hlv n _ hg rfl,by show w.cell? _ = _;simpa using h1,hpu⟩
theorem nil_rf {μ : Hp} : wordZ μ (.slice none 0 0) (.v [] 0):=by
  intro pr w0 ι w hS F hF hlv
  refine ⟨none,0,by simp [conc,Wd.len],(0,0),.inl rfl,fun i u hu => by simp at hu⟩
theorem con29w {G : Prot → World → Prop} (hst : StandsL G) {bs : List Int} (hb : bs.length < 1099511627776) : ConWG G Tryz.prog 29 (K29w bs):=by
  obtain ⟨μL',hr,hn,hnew⟩:=(con29c (G:=G) hb).run
  refine conW_word hst (.v (bv bs) bs.length) (by simp [limit]) (con29c (G:=G) hb).bd (con29c (G:=G) hb).ap hr ?_
  by_cases h0 : bs.length = 0
  · obtain rfl : bs = []:=List.length_eq_zero_iff.1 h0
    exact nil_rf
  · simp only [K29c,if_neg h0] at hnew ⊢
    exact atoms_rf (us:=[]) (hnew 0 _ rfl) bv_pure
theorem con30w {G : Prot → World → Prop} (hst : StandsL G) {es : List Ent} (hb : es.length < 1099511627776) : ConWG G Tryz.prog 30 (K30w es):=by
  obtain ⟨μL',hr,hn,hnew⟩:=(con30c (G:=G) hb).run
  refine conW_word hst (.v (av es) es.length) (by simp [limit]) (con30c (G:=G) hb).bd (con30c (G:=G) hb).ap hr ?_
  by_cases h0 : es.length = 0
  · obtain rfl : es = []:=List.length_eq_zero_iff.1 h0
    exact nil_rf
  · simp only [K30c,if_neg h0] at hnew ⊢
    exact atoms_rf (us:=[]) (hnew 0 _ rfl) av_pure
theorem sC_ok {pr : Prot} {w0 : World} (hG : Tab pr w0) {bs : List Int} {es : List Ent} (h1 : bs.length < 1099511627776) (h2 : es.length < 1099511627776) : SmOk Tryz.prog E1 pr w0 (sC bs es) :=
  withS_ok (withS_ok (sm0_ok pr w0) (fun args μ e μ' p hg hp => viewW_ok tab_stands hG (con29w tab_stands h1) args args μ e μ' p hg hp)) (fun args μ e μ' p hg hp => viewW_ok tab_stands hG (con30w tab_stands h2) args args μ e μ' p hg hp)
def ndAt (l : List Nd) (j : Nat) : Nd:=l.getD j nd0
def kidsCj (l : List Nd) (j : Nat) : List (Nat × AObj):=[(1000 + 4 * j,.rov (bv (ndAt l j).bs)),(1001 + 4 * j,.word (ndAt l j).bs.length (1000 + 4 * j)),(1002 + 4 * j,.rov (av (ndAt l j).es)),(1003 + 4 * j,.word (ndAt l j).es.length (1002 + 4 * j))]
def kidsC (l : List Nd) (k : Nat) : List (Nat × AObj):=rows (kidsCj l) k
def cellC (l : List Nd) (j : Nat) : List Value:=nodeV (ndAt l j).nm (.chan (some (1001 + 4 * j))) (.chan (some (1003 + 4 * j))) (ndAt l j).x
def oCk (l : List Nd) : Nat → List (Nat × AObj)
  | 0 => oN0 l.length (nodesD l)
  | k + 1 => oN l.length (nodesD l) (rows (cellC l) (k + 1))
def oCn (l : List Nd) (k : Nat) : List (Nat × AObj):=oCk l k ++ kidsC l k
def tCN : Nat → List (Nat × Value)
  | 0 => tN0 0
  | k + 1 => tN (k + 1)
theorem kidsC_mem {l : List Nd} {k : Nat} {p : Nat × AObj} (h : p ∈ kidsC l k) : ∃ j,j < k∧(p = (1000 + 4 * j,.rov (bv (ndAt l j).bs)) ∨ p = (1001 + 4 * j,.word (ndAt l j).bs.length (1000 + 4 * j)) ∨ p = (1002 + 4 * j,.rov (av (ndAt l j).es)) ∨ p = (1003 + 4 * j,.word (ndAt l j).es.length (1002 + 4 * j))):=by
  obtain ⟨j,hj,h1⟩:=rows_mem h
  simp only [kidsCj,List.mem_cons,List.not_mem_nil,or_false] at h1
  exact ⟨j,hj,h1⟩
theorem kidsC_look {l : List Nd} {j : Nat} : ∀ {k : Nat},j < k → look (kidsC l k) (1000 + 4 * j) = some (.rov (bv (ndAt l j).bs))∧look (kidsC l k) (1001 + 4 * j) = some (.word (ndAt l j).bs.length (1000 + 4 * j))∧look (kidsC l k) (1002 + 4 * j) = some (.rov (av (ndAt l j).es))∧look (kidsC l k) (1003 + 4 * j) = some (.word (ndAt l j).es.length (1002 + 4 * j))
  | 0,h => absurd h (Nat.not_lt_zero _)
  | k + 1,h => by
    rw [kidsC,rows_succ,← kidsC,look_app,look_app,look_app,look_app]
    by_cases hk : j < k
    · obtain ⟨h1,h2,h3,h4⟩:=kidsC_look (l:=l) hk
      rw [h1,h2,h3,h4];exact ⟨rfl,rfl,rfl,rfl⟩
    · obtain rfl : j = k:=by omega
      have hno : ∀ n,1000 + 4 * j ≤ n → look (kidsC l j) n = none:=fun n hn => look_none fun p hp => by
        obtain ⟨i,hi,rfl | rfl | rfl | rfl⟩:=kidsC_mem hp <;> simp only <;> omega
      rw [hno _ (by omega),hno _ (by omega),hno _ (by omega),hno _ (by omega)]
      simp only [kidsCj,look]
      refine ⟨by rw [if_pos trivial],?_,?_,?_⟩
      · rw [if_neg (by omega),if_pos trivial]
      · rw [if_neg (by omega),if_neg (by omega),if_pos trivial]
      · rw [if_neg (by omega),if_neg (by omega),if_neg (by omega),if_pos trivial]
theorem kidsC_small {l : List Nd} {k : Nat} (hk : k ≤ 16777216) : smallN (kidsC l k) = true:=by
  refine List.all_eq_true.2 fun p hp => ?_
  obtain ⟨j,hj,rfl | rfl | rfl | rfl⟩:=kidsC_mem hp
  all_goals
    simp only [Nat.blt_eq,limit]
    omega
theorem oCk_mem {l : List Nd} {k : Nat} {p : Nat × AObj} (h : p ∈ oCk l k) : p = (0,.ro (nodesD l)) ∨ p = (1,.word l.length 0) ∨ (k ≠ 0∧p = (2,.cells (rows (cellC l) k) 16)):=by
  cases k with
  | zero => simp only [oCk,oN0,List.mem_cons,List.not_mem_nil,or_false] at h;rcases h with h | h
            · exact .inl h
            · exact .inr (.inl h)
  | succ k => simp only [oCk,oN,List.mem_cons,List.not_mem_nil,or_false] at h
              rcases h with h | h | h
              · exact .inl h
              · exact .inr (.inl h)
              · exact .inr (.inr ⟨by omega,h⟩)
theorem oCk_small (l : List Nd) : ∀ k,smallN (oCk l k) = true
  | 0 => rfl
  | _ + 1 => rfl
theorem cellC_mem {l : List Nd} {k : Nat} {v : Value} (h : v ∈ rows (cellC l) k) : (∃ s,v = .string s) ∨ (∃ kk i,v = .int kk i) ∨ ∃ j,j < k∧(v = .chan (some (1001 + 4 * j)) ∨ v = .chan (some (1003 + 4 * j))):=by
  obtain ⟨j,hj,h1⟩:=rows_mem h
  rcases nodeV_mem h1 with h | h | h | h
  · exact .inl ⟨_,h⟩
  · exact .inr (.inr ⟨j,hj,.inl h⟩)
  · exact .inr (.inr ⟨j,hj,.inr h⟩)
  · exact .inr (.inl h)
theorem cellC_bd {l : List Nd} {k : Nat} (hk : k ≤ 16777216) {N : Nat} (hN : 400000000 ≤ N) : ∀ v ∈ rows (cellC l) k,Bd N v:=by
  intro v hv
  rcases cellC_mem hv with ⟨s,rfl⟩ | ⟨kk,i,rfl⟩ | ⟨j,hj,rfl | rfl⟩ <;> simp <;> omega
theorem oCk_bd {l : List Nd} {k : Nat} (hk : k ≤ 16777216) : ∀ p ∈ oCk l k,p.1 < 400000000∧BdO 400000000 p.2:=by
  intro p hp
  rcases oCk_mem hp with rfl | rfl | ⟨_,rfl⟩
  · exact ⟨by simp,trivial⟩
  · exact ⟨by simp,by simp [BdO]⟩
  · exact ⟨by simp,cellC_bd hk (Nat.le_refl _)⟩
theorem oCn_bd {l : List Nd} {k : Nat} (hk : k ≤ 16777216) : ∀ p ∈ oCn l k,p.1 < 400000000∧BdO 400000000 p.2:=by
  intro p hp
  rcases List.mem_append.1 hp with h | h
  · exact oCk_bd hk p h
  · obtain ⟨j,hj,rfl | rfl | rfl | rfl⟩:=kidsC_mem h
    all_goals refine ⟨by simp only;omega,?_⟩
    · trivial
    · simp only [BdO];omega
    · trivial
    · simp only [BdO];omega
theorem kidsC_oth {l : List Nd} {k m : Nat} (hk : k ≤ 16777216) : ∀ p ∈ kidsC l k,p.1 < 400000000∧∀ q ∈ oCk l m,q.1 ≠ p.1:=by
  intro p hp
  obtain ⟨j,hj,rfl | rfl | rfl | rfl⟩:=kidsC_mem hp
  all_goals
    refine ⟨by simp only;omega,fun q hq => ?_⟩
    rcases oCk_mem hq with rfl | rfl | ⟨_,rfl⟩ <;> simp only <;> omega
def sgC (k n : Nat) : Nat:=if n = 2 then 400000014 else if n = 1000 + 4 * k then 400000007 else if n = 1001 + 4 * k then 400000008 else if n = 1002 + 4 * k then 400000011 else if n = 1003 + 4 * k then 400000012 else n
theorem sgC_low {k n : Nat} (h : n < 1000 + 4 * k) (h2 : n ≠ 2) : sgC k n = n:=by unfold sgC;rw [if_neg h2,if_neg (by omega),if_neg (by omega),if_neg (by omega),if_neg (by omega)]
theorem sgC_2 (k : Nat) : sgC k 2 = 400000014:=if_pos rfl
theorem sgC_a (k : Nat) : sgC k (1000 + 4 * k) = 400000007:=by unfold sgC;rw [if_neg (by omega),if_pos rfl]
theorem sgC_b (k : Nat) : sgC k (1001 + 4 * k) = 400000008:=by unfold sgC;rw [if_neg (by omega),if_neg (by omega),if_pos rfl]
theorem sgC_c (k : Nat) : sgC k (1002 + 4 * k) = 400000011:=by unfold sgC;rw [if_neg (by omega),if_neg (by omega),if_neg (by omega),if_pos rfl]
theorem sgC_d (k : Nat) : sgC k (1003 + 4 * k) = 400000012:=by unfold sgC;rw [if_neg (by omega),if_neg (by omega),if_neg (by omega),if_neg (by omega),if_pos rfl]
def osC (l : List Nd) (k : Nat) : List (Nat × AObj):=[(0,.ro (nodesD l)),(1,.word l.length 0),(400000007,.rov (bv (ndAt l k).bs)),(400000008,.word (ndAt l k).bs.length 400000007),(400000011,.rov (av (ndAt l k).es)),(400000012,.word (ndAt l k).es.length 400000011),(400000014,.cells (rows (cellC l) k ++ nodeV (ndAt l k).nm (.chan (some 400000008)) (.chan (some 400000012)) (ndAt l k).x) 16)]
def tsC (k : Nat) : List (Nat × Value):=[(0,.chan (some 1)),(2,.slice none 0 0),(3,.slice (some ⟨400000014,0,none⟩) (k + 1) (2 * (k + 1) + 1)),(4,.int .i64 ((k + 1 : Nat) : Int))]
theorem tCN_ok (k : Nat) : ∀ p ∈ tCN k,Bd 400000000 p.2∧look (tCN k) p.1 = some p.2:=by
  intro p hp
  cases k with
  | zero => simp only [tCN,tN0,List.mem_cons,List.not_mem_nil,or_false] at hp
            rcases hp with rfl | rfl | rfl | rfl <;> simp [tCN,tN0,look]
  | succ k => simp only [tCN,tN,List.mem_cons,List.not_mem_nil,or_false] at hp
              rcases hp with rfl | rfl | rfl | rfl <;> simp [tCN,tN,look]
theorem tCN_small : ∀ k,smallN (tCN k) = true
  | 0 => rfl
  | _ + 1 => rfl
theorem nodesD_at {l : List Nd} {k : Nat} (hk : k < l.length) : List.take 16 (List.drop (0 + Int.toNat (k : Int) * 16) (nodesD l)) = nodeD (ndAt l k).nm (ndAt l k).bs (ndAt l k).es (ndAt l k).x:=by
  have e : ndAt l k = l[k]:=by rw [ndAt,List.getD_eq_getElem?_getD,List.getElem?_eq_getElem hk];rfl
  rw [nodesD_get hk,e]
theorem hh10 : Here E1 10 [0,0,1,0,1,1] (codeAt Tryz.f10 [0,0,1,0,1,1]):=codeAt_here (fn:=Tryz.f10) (by kernel_rfl) (by kernel_rfl)
theorem osC_bd {l : List Nd} {k : Nat} (hk : k ≤ 16777216) : ∀ p ∈ osC l k,p.1 < 400000015∧BdO 400000015 p.2:=by
  intro p hp
  simp only [osC,List.mem_cons,List.not_mem_nil,or_false] at hp
  rcases hp with rfl | rfl | rfl | rfl | rfl | rfl | rfl
  · exact ⟨by simp,trivial⟩
  · exact ⟨by simp,by simp [BdO]⟩
  · exact ⟨by simp,trivial⟩
  · exact ⟨by simp,by simp [BdO]⟩
  · exact ⟨by simp,trivial⟩
  · exact ⟨by simp,by simp [BdO]⟩
  · refine ⟨by simp,fun v hv => ?_⟩
    rcases List.mem_append.1 hv with h | h
    · exact cellC_bd hk (by decide) v h
    · rcases nodeV_mem h with rfl | rfl | rfl | ⟨_,_,rfl⟩ <;> simp
theorem cpRun {l : List Nd} (hl : l.length < 16777216) (hs : ∀ nd ∈ l,nd.small) {k : Nat} (hk : k < l.length) {pr : Prot} {w0 : World} (hG : Tab pr w0) {N : Nat} :
    Tri Tryz.prog pr w0 N (codeAt Tryz.f10 [0,0,1,0,1,1]) (mkFr 29 (tCN k)) (mkHp 400000000 (oCn l k)) fun e f m => e = .normal∧f = mkFr 29 (tsC k)∧m = mkHp 400000015 (osC l k ++ kidsC l k):=by
  have e0 : ndAt l k = l[k]:=by rw [ndAt,List.getD_eq_getElem?_getD,List.getElem?_eq_getElem hk];rfl
  have hsm : (ndAt l k).small:=by rw [e0];exact hs l[k] (List.getElem_mem hk)
  have hF : Fits 400000000 (tsC k) (osC l k) 400000015:=⟨rfl,rfl,fun p hp => by
    simp only [tsC,List.mem_cons,List.not_mem_nil,or_false] at hp
    rcases hp with rfl | rfl | rfl | rfl <;> simp,osC_bd (by omega),by decide,by decide⟩
  cases k with
  | zero =>
    have hc:=r10a_came l.length 0 (nodesD l) (ndAt l 0).bs (ndAt l 0).es (ndAt l 0).nm (ndAt l 0).x (by simp;omega) (by simp;omega) (nodesD_at hk)
    rw [i64_succ (by omega)] at hc
    exact came_lift hP1 tab_stands hG (fun pr w0 hG => sC_ok hG hsm.1 hsm.2) hh10 (by simp) hc (tsC 0) (osC l 0) (kidsC l 0) (tCN_small 0) (tCN_ok 0) (by simp [tsC]) (by simp [osC,nodeV,rows]) hF (oCk_small l 0) (oCk_bd (l:=l) (k:=0) (by omega)) (kidsC_small (by omega)) (kidsC_oth (l:=l) (k:=0) (m:=0) (by omega)) (N:=N)
  | succ k =>
    have hul : (rows (cellC l) (k + 1)).length = (k + 1) * 16:=rows_length (s:=16) fun _ _ => rfl
    obtain ⟨c1,c2⟩:=cap_odd (k + 1)
    have ht : List.take ((k + 1) * 16) (rows (cellC l) (k + 1)) = rows (cellC l) (k + 1):=List.take_of_length_le (by rw [hul];exact Nat.le_refl _)
    have hc:=r10b_came l.length (k + 1) (nodesD l) (rows (cellC l) (k + 1)) (ndAt l (k + 1)).bs (ndAt l (k + 1)).es (ndAt l (k + 1)).nm (ndAt l (k + 1)).x (by simp;omega) (by simp;omega) (nodesD_at hk) ⟨by decide,by rw [hul];omega,by rw [c1];omega,by omega,by omega,by rw [List.drop_zero,ht,hul],rfl,rfl,c2,rfl,by rw [c1,hul];omega⟩
    rw [i64_succ (by omega),List.drop_zero,List.drop_zero,ht] at hc
    exact came_lift hP1 tab_stands hG (fun pr w0 hG => sC_ok hG hsm.1 hsm.2) hh10 (by simp) hc (tsC (k + 1)) (osC l (k + 1)) (kidsC l (k + 1)) (tCN_small (k + 1)) (tCN_ok (k + 1)) (by simp [tsC]) (by simp [osC,nodeV]) hF (oCk_small l (k + 1)) (oCk_bd (l:=l) (k:=k + 1) (by omega)) (kidsC_small (by omega)) (kidsC_oth (l:=l) (k:=k + 1) (m:=k + 1) (by omega)) (N:=N)
theorem oCn_small {l : List Nd} {k : Nat} (hk : k ≤ 16777216) : smallN (oCn l k) = true:=smallN_app (oCk_small l k) (kidsC_small hk)
theorem cellC_up {l : List Nd} {k : Nat} : (rows (cellC l) k).map (upV (sgC k)) = rows (cellC l) k:=by
  have : (rows (cellC l) k).map (upV (sgC k)) = (rows (cellC l) k).map id:=List.map_congr_left fun v hv => by
    rcases cellC_mem hv with ⟨s,rfl⟩ | ⟨kk,i,rfl⟩ | ⟨j,hj,rfl | rfl⟩
    · simp [upV]
    · simp [upV]
    · simp [upV,sgC_low (k:=k) (n:=1001 + 4 * j) (by omega) (by omega)]
    · simp [upV,sgC_low (k:=k) (n:=1003 + 4 * j) (by omega) (by omega)]
  rw [this,List.map_id]
theorem tCN_succ (k : Nat) : tCN (k + 1) = tN (k + 1):=rfl
theorem cpRound {l : List Nd} (hl : l.length < 16777216) (hs : ∀ nd ∈ l,nd.small) {k : Nat} (hk : k < l.length) {pr : Prot} {w0 : World} (hG : Tab pr w0) :
    Tri Tryz.prog pr w0 2 (codeAt Tryz.f10 [0,0,1,0,1,1]) (mkFr 29 (tCN k)) (mkHp 400000000 (oCn l k)) fun e f m => e = .normal∧f = mkFr 29 (tCN (k + 1))∧m = mkHp 400000000 (oCn l (k + 1)):=by
  have h:=cpRun hl hs hk hG (N:=2)
  have hos : smallN (osC l k ++ kidsC l k) = true:=smallN_app rfl (kidsC_small (by omega))
  have hlo : ∀ n,n < 400000000 → 2 ≤ n → look (osC l k) n = none:=fun n h1 h2 => look_none fun q hq => by
    simp only [osC,List.mem_cons,List.not_mem_nil,or_false] at hq
    rcases hq with rfl | rfl | rfl | rfl | rfl | rfl | rfl <;> simp only <;> omega
  refine tri_turn (by simp) (sgC k) h (fun n hn => sgC_low (by omega) (by omega)) (by simp [mkHp]) (keeps_list hos (oCn_small (by omega)) (fun p hp => ⟨(oCn_bd (by omega) p hp).1,(oCn_bd (by omega) p hp).2,?_⟩) (fun p hp q hq hv hv' hne => ?_) (by decide)) (keepsF_list rfl (tCN_small (k + 1)) fun p hp => ⟨(tCN_ok (k + 1) p hp).1,?_⟩) ⟨rfl,rfl,rfl⟩
  · rcases List.mem_append.1 hp with hp | hp
    · rcases oCk_mem hp with rfl | rfl | ⟨_,rfl⟩
      · rw [sgC_low (by simp only;omega) (by simp)];rfl
      · rw [sgC_low (by simp only;omega) (by simp)]
        simp only [upO]
        rw [sgC_low (by omega) (by omega)];rfl
      · simp only [upO]
        rw [sgC_2,rows_succ,List.map_append,cellC_up]
        simp only [cellC,nodeV,List.map_cons,List.map_nil,upV,sgC_b,sgC_d]
        rfl
    · rw [kidsC,rows_succ,← kidsC] at hp
      rcases List.mem_append.1 hp with hp | hp
      · obtain ⟨j,hj,hp⟩:=kidsC_mem hp
        obtain ⟨g1,g2,g3,g4⟩:=kidsC_look (l:=l) hj
        rcases hp with rfl | rfl | rfl | rfl
        · rw [sgC_low (by simp only;omega) (by simp only;omega),look_app,hlo _ (by simp only;omega) (by simp only;omega)];exact g1
        · rw [sgC_low (by simp only;omega) (by simp only;omega),look_app,hlo _ (by simp only;omega) (by simp only;omega)]
          simp only [upO]
          rw [sgC_low (by omega) (by omega)];exact g2
        · rw [sgC_low (by simp only;omega) (by simp only;omega),look_app,hlo _ (by simp only;omega) (by simp only;omega)];exact g3
        · rw [sgC_low (by simp only;omega) (by simp only;omega),look_app,hlo _ (by simp only;omega) (by simp only;omega)]
          simp only [upO]
          rw [sgC_low (by omega) (by omega)];exact g4
      · simp only [kidsCj,List.mem_cons,List.not_mem_nil,or_false] at hp
        rcases hp with rfl | rfl | rfl | rfl
        · rw [sgC_a];rfl
        · rw [sgC_b];simp only [upO];rw [sgC_a];rfl
        · rw [sgC_c];rfl
        · rw [sgC_d];simp only [upO];rw [sgC_c];rfl
  · have hl2 : ∀ p ∈ oCn l (k + 1),p.2.live = true → p.1 = 2:=by
      intro p hp hv
      rcases List.mem_append.1 hp with hp | hp
      · rcases oCk_mem hp with rfl | rfl | ⟨_,rfl⟩
        · cases hv
        · cases hv
        · rfl
      · obtain ⟨j,hj,rfl | rfl | rfl | rfl⟩:=kidsC_mem hp <;> cases hv
    exact absurd ((hl2 p hp hv).trans (hl2 q hq hv').symm) hne
  · rw [tCN_succ] at hp
    simp only [tN,List.mem_cons,List.not_mem_nil,or_false] at hp
    rcases hp with rfl | rfl | rfl | rfl
    · simp [tsC,look,upV,sgC_low (k:=k) (n:=1) (by omega) (by omega)]
    · simp [tsC,look,upV]
    · simp [tsC,look,upV,sgC_2]
    · simp [tsC,look,upV]
end Go.Abs
end
section
namespace Go.Abs
open Go.Proofs
set_option maxRecDepth 100000
def tCS : List (Nat × Value):=[(0,.chan (some 1)),(2,.slice none 0 0),(3,.slice none 0 0)]
def v10 : Nat → Value
 | 0 => .slice none 0 0
 | k + 1 => .slice (some ⟨2,0,none⟩) (k + 1) (2 * (k + 1) + 1)
def tCE (k : Nat) : List (Nat × Value):=[(0,.chan (some 1)),(2,.slice none 0 0),(3,v10 k)]
theorem tCE_ok (k : Nat) : ∀ p ∈ tCE k,Bd 400000000 p.2∧look (tCE k) p.1 = some p.2:=by
 intro p hp
 simp only [tCE,List.mem_cons,List.not_mem_nil,or_false] at hp
 rcases hp with rfl | rfl | rfl
 ·simp [tCE,look]
 ·simp [tCE,look]
 ·refine ⟨?_,rfl⟩
  cases k <;> simp [v10]
theorem cpLoop {l : List Nd} (hl : l.length < 16777216) (hs : ∀ nd ∈ l,nd.small) {pr : Prot} {w0 : World} (hG : Tab pr w0) :
  Tri Tryz.prog pr w0 2 (.loop (codeAt Tryz.f10 [0,0,1,0,1,1])) (mkFr 29 (tCN 0)) (mkHp 400000000 (oCn l 0)) fun e f m => e = .exit 0∧f = mkFr 29 (tCE l.length)∧m = mkHp 400000000 (oCn l l.length):=by
 refine tri_loop (T:={ k : Nat // k ≤ l.length }) (fun t => mkFr 29 (tCN t.1)) (fun t => mkHp 400000000 (oCn l t.1)) (fun t => l.length - t.1) ?_ ⟨0,Nat.zero_le _⟩
 rintro ⟨k,hk⟩
 by_cases hkn : k < l.length
 ·refine (cpRound hl hs hkn hG).weaken ?_
  rintro e f m ⟨rfl,rfl,rfl⟩
  exact .inl (.inl ⟨rfl,⟨k + 1,hkn⟩,rfl,rfl,by simp only;omega⟩)
 ·have hkl : k = l.length:=by omega
  have key : Tri Tryz.prog pr w0 2 (codeAt Tryz.f10 [0,0,1,0,1,1]) (mkFr 29 (tCN k)) (mkHp 400000000 (oCn l k)) fun e f m => e = .exit 0∧f = mkFr 29 (tCE k)∧m = mkHp 400000000 (oCn l k):=by
   cases k with
   | zero =>
    exact came_lift hP1 tab_stands hG (fun pr w0 _ => sm0_ok pr w0) hh10 (by simp) (r10y_came l.length 0 (nodesD l) (by simp only [decide_eq_false_iff_not];omega)) (tCE 0) (oCk l 0) (kidsC l 0) (tCN_small 0) (tCN_ok 0) (by simp [tCE,v10]) (by simp [oCk,oN0]) ⟨rfl,rfl,fun p hp => (tCE_ok 0 p hp).1,oCk_bd (by omega),by decide,by decide⟩ (oCk_small l 0) (oCk_bd (l:=l) (k:=0) (by omega)) (kidsC_small (by omega)) (kidsC_oth (l:=l) (k:=0) (m:=0) (by omega)) (N:=2)
   | succ k =>
    exact came_lift hP1 tab_stands hG (fun pr w0 _ => sm0_ok pr w0) hh10 (by simp) (r10x_came l.length (k + 1) (nodesD l) (rows (cellC l) (k + 1)) (by simp only [decide_eq_false_iff_not];omega)) (tCE (k + 1)) (oCk l (k + 1)) (kidsC l (k + 1)) (tCN_small (k + 1)) (tCN_ok (k + 1)) (by simp [tCE,v10]) (by simp [oCk,oN]) ⟨rfl,rfl,fun p hp => (tCE_ok (k + 1) p hp).1,oCk_bd (by omega),by decide,by decide⟩ (oCk_small l (k + 1)) (oCk_bd (l:=l) (k:=k + 1) (by omega)) (kidsC_small (by omega)) (kidsC_oth (l:=l) (k:=k + 1) (m:=k + 1) (by omega)) (N:=2)
  refine key.weaken ?_
  rintro e f m ⟨rfl,rfl,rfl⟩
  subst hkl
  exact .inl (.inr ⟨by simp,rfl,rfl,rfl⟩)
theorem shape10 : codeAt Tryz.f10 [1,1] = .seq (.seq (codeAt Tryz.f10 [0,0,1,1]) (.block 0 (.loop (codeAt Tryz.f10 [0,0,1,0,1,1])))) (codeAt Tryz.f10 [1,1,1]):=by kernel_rfl
theorem cpRest {l : List Nd} (hl : l.length < 16777216) (hs : ∀ nd ∈ l,nd.small) {pr : Prot} {w0 : World} (hG : Tab pr w0) :
  Tri Tryz.prog pr w0 2 (codeAt Tryz.f10 [1,1]) (mkFr 29 tCS) (mkHp 2 (oN0 l.length (nodesD l))) fun e f m => e = .ret∧f = mkFr 29 [(2,v10 l.length)]∧m = mkHp 400000000 (oCn l l.length):=by
 have hh2 : Here E1 10 [0,0,1,1] (codeAt Tryz.f10 [0,0,1,1]):=codeAt_here (fn:=Tryz.f10) (by kernel_rfl) (by kernel_rfl)
 have hh3 : Here E1 10 [1,1,1] (codeAt Tryz.f10 [1,1,1]):=codeAt_here (fn:=Tryz.f10) (by kernel_rfl) (by kernel_rfl)
 have hz : oCn l 0 = oN0 l.length (nodesD l):=List.append_nil _
 have h2 : Tri Tryz.prog pr w0 2 (codeAt Tryz.f10 [0,0,1,1]) (mkFr 29 tCS) (mkHp 2 (oN0 l.length (nodesD l))) fun e f m => e = .normal∧f = mkFr 29 (tCN 0)∧m = mkHp 400000000 (oCn l 0):=by
  rw [hz]
  refine tri_came_via hP1.hE hP1.ng hP1.mix (sm0_ok pr w0) noRun_ok hh2 (r10s_came l.length (nodesD l)).of (fun n => n) (fun p hp => by rw [upV_id];revert p;simp [tCN,tN0]) (fun p hp => by rw [upO_id];revert p;simp [oN0]) (fun p _ q _ h => h) (by simp) rfl rfl (fun p hp => (tCN_ok 0 p hp).1) (by rw [← hz];exact fun p hp => oCn_bd (by omega) p hp) (by decide) (fun _ _ => rfl) (by decide)
 have h3 : Tri Tryz.prog pr w0 2 (.block 0 (.loop (codeAt Tryz.f10 [0,0,1,0,1,1]))) (mkFr 29 (tCN 0)) (mkHp 400000000 (oCn l 0)) fun e f m => e = .normal∧f = mkFr 29 (tCE l.length)∧m = mkHp 400000000 (oCn l l.length) :=
  tri_block (cpLoop hl hs hG) (fun f m h => ⟨rfl,h.2⟩) (fun e f m hne h => absurd h.1 hne)
 have h4 : Tri Tryz.prog pr w0 2 (codeAt Tryz.f10 [1,1,1]) (mkFr 29 (tCE l.length)) (mkHp 400000000 (oCn l l.length)) fun e f m => e = .ret∧f = mkFr 29 [(2,v10 l.length)]∧m = mkHp 400000000 (oCn l l.length):=by
  have hv : ∀ k,∀ p ∈ [(2,v10 k)],Bd 400000000 p.2:=fun k p hp => by
   simp only [List.mem_cons,List.not_mem_nil,or_false] at hp
   subst hp
   cases k <;> simp [v10]
  have key : ∀ k,k < 16777216 → k = l.length → Tri Tryz.prog pr w0 2 (codeAt Tryz.f10 [1,1,1]) (mkFr 29 (tCE k)) (mkHp 400000000 (oCn l k)) fun e f m => e = .ret∧f = mkFr 29 [(2,v10 k)]∧m = mkHp 400000000 (oCn l k):=by
   intro k hk hkl
   cases k with
   | zero =>
    exact came_lift hP1 tab_stands hG (fun pr w0 _ => sm0_ok pr w0) hh3 (by simp) (r10z_came l.length (nodesD l)) [(2,v10 0)] (oCk l 0) (kidsC l 0) rfl (tCE_ok 0) (by simp [v10]) (by simp [oCk,oN0]) ⟨rfl,rfl,hv 0,oCk_bd (by omega),by decide,by decide⟩ (oCk_small l 0) (oCk_bd (l:=l) (k:=0) (by omega)) (kidsC_small (by omega)) (kidsC_oth (l:=l) (k:=0) (m:=0) (by omega)) (N:=2)
   | succ k =>
    exact came_lift hP1 tab_stands hG (fun pr w0 _ => sm0_ok pr w0) hh3 (by simp) (r10e_came l.length (nodesD l) (rows (cellC l) (k + 1)) (k + 1)) [(2,v10 (k + 1))] (oCk l (k + 1)) (kidsC l (k + 1)) rfl (tCE_ok (k + 1)) (by simp [v10]) (by simp [oCk,oN]) ⟨rfl,rfl,hv (k + 1),oCk_bd (by omega),by decide,by decide⟩ (oCk_small l (k + 1)) (oCk_bd (l:=l) (k:=k + 1) (by omega)) (kidsC_small (by omega)) (kidsC_oth (l:=l) (k:=k + 1) (m:=k + 1) (by omega)) (N:=2)
  exact key _ hl rfl
 rw [shape10]
 exact tri_seq (tri_seq h2 h3) h4
noncomputable def q10 (l : List Nd) (v : Value) : Sm:=withL sm0 10 [1,1] (piece 29 tCS (oN0 l.length (nodesD l)) 2 .ret (mkFr 29 [(2,v)]) (mkHp 400000000 (oCn l l.length)))
theorem run10z (l : List Nd) : runF Tryz.prog E1 (q10 l (.slice none 0 0)) noRun 100 10 [.chan (some 1)] (mkHp 2 [(0,.ro (nodesD l)),(1,.word l.length 0)]) [] True = some (.returned (.slice none 0 0),mkHp 400000000 (oCn l l.length),[],True∧SelfP 29 tCS (oN0 l.length (nodesD l)) 2):=by kernel_rfl
theorem run10s (l : List Nd) (a : Addr) (n c : Nat) : runF Tryz.prog E1 (q10 l (.slice (some a) n c)) noRun 100 10 [.chan (some 1)] (mkHp 2 [(0,.ro (nodesD l)),(1,.word l.length 0)]) [] True = some (.returned (.slice (some a) n c),mkHp 400000000 (oCn l l.length),[],True∧SelfP 29 tCS (oN0 l.length (nodesD l)) 2):=by kernel_rfl
theorem con10L {l : List Nd} (hl : l.length < 16777216) (hs : ∀ nd ∈ l,nd.small) : LocalG Tab Tryz.prog 10 [.chan (some 1)] (mkHp 2 [(0,.ro (nodesD l)),(1,.word l.length 0)]) (.returned (v10 l.length)) (mkHp 400000000 (oCn l l.length)):=by
 have hr : runF Tryz.prog E1 (q10 l (v10 l.length)) noRun 100 10 [.chan (some 1)] (mkHp 2 [(0,.ro (nodesD l)),(1,.word l.length 0)]) [] True = some (.returned (v10 l.length),mkHp 400000000 (oCn l l.length),[],True∧SelfP 29 tCS (oN0 l.length (nodesD l)) 2):=by
  cases hk : l.length with
  | zero => have:=run10z l;rw [hk] at this;exact this
  | succ k => have:=run10s l ⟨2,0,none⟩ (k + 1) (2 * (k + 1) + 1);rw [hk] at this;exact this
 refine localG_run hP1 (s:=q10 l (v10 l.length)) (fun pr w0 hG => withL_ok (sm0_ok pr w0) (fn:=Tryz.f10) (c:=codeAt Tryz.f10 [1,1]) (by kernel_rfl) (by kernel_rfl) ?_) hr ⟨trivial,selfP_true _ _ _ _⟩ (by simp [mkHp])
 exact piece_ok (by simp) rfl rfl (by simp [tCS]) (by simp [oN0,BdO]) (by decide) (cpRest hl hs hG)
def RefG (ι : Ren) (F : Nat → Prop) (w : World) (ds : List Deep) (vs : List Value) : Prop:=ds.length = vs.length∧∀ (i : Nat) (d : Deep) (v : Value),ds[i]? = some d → vs[i]? = some v → DeepOk F w d (conc ι v)
theorem RefG.cons {ι : Ren} {F : Nat → Prop} {w : World} {d : Deep} {v : Value} {ds : List Deep} {vs : List Value} (h : DeepOk F w d (conc ι v)) (hs : RefG ι F w ds vs) : RefG ι F w (d :: ds) (v :: vs):=by
 refine ⟨by simp [hs.1],fun i d' v' hd hv => ?_⟩
 cases i with
 | zero => simp at hd hv;subst hd;subst hv;exact h
 | succ i => exact hs.2 i d' v' (by simpa using hd) (by simpa using hv)
theorem RefG.rows {ι : Ren} {F : Nat → Prop} {w : World} {f : Nat → List Deep} {g : Nat → List Value} : ∀ {n : Nat},(∀ j,j < n → RefG ι F w (f j) (g j)) → RefG ι F w (Go.Abs.rows f n) (Go.Abs.rows g n)
 | 0,_ => ⟨rfl,fun i d v h => by simp [Go.Abs.rows] at h⟩
 | n + 1,h => by
  rw [rows_succ,rows_succ]
  have h1:=RefG.rows (n:=n) fun j hj => h j (by omega)
  have h2:=h n (by omega)
  refine ⟨by simp [h1.1,h2.1],fun i d v hd hv => ?_⟩
  by_cases hi : i < (Go.Abs.rows f n).length
  ·rw [List.getElem?_append_left hi] at hd
   rw [List.getElem?_append_left (by rw [← h1.1];exact hi)] at hv
   exact h1.2 i d v hd hv
  ·rw [List.getElem?_append_right (by omega)] at hd
   rw [List.getElem?_append_right (by rw [← h1.1];omega),← h1.1] at hv
   exact h2.2 _ d v hd hv
theorem refG_tail {ι : Ren} {F : Nat → Prop} {w : World} (x : Nat → Int) (vs : List Value) (h : vs = [.int .u32 (x 0),.int .u32 (x 1),.int .u32 (x 2),.int .u32 (x 3),.int .u32 (x 4),.int .u32 (x 5),.int .i32 (x 6),.int .i32 (x 7),.int .i32 (x 8),.int .i64 (x 9),.int .i64 (x 10),.int .i64 (x 11),.int .i32 (x 12)]) : RefG ι F w (tailD x) vs:=by
 subst h
 have r : ∀ (k : IntKind) (i : Int),DeepOk F w (.val (.int k i)) (conc ι (.int k i)):=fun k i => by rw [deepOk_val];exact ⟨by simp,pure_int _ _⟩
 exact .cons (r _ _) (.cons (r _ _) (.cons (r _ _) (.cons (r _ _) (.cons (r _ _) (.cons (r _ _) (.cons (r _ _) (.cons (r _ _) (.cons (r _ _) (.cons (r _ _) (.cons (r _ _) (.cons (r _ _) (.cons (r _ _) ⟨rfl,fun i d v h => by simp at h⟩))))))))))))
theorem word_slv {pr : Prot} {w0 w : World} {ι : Ren} {μ : Hp} (hS : Sim pr w0 0 ι μ w) {F : Nat → Prop} (hF : ∀ b,ι.fz b → F b) {n r : Nat} {vs : List Value} {len : Nat} (hr : μ.get r = some (.rov vs)) (hn : μ.get n = some (.word len r)) (h0 : len = 0 → vs = []) : DeepOk F w (.slv vs len) (conc ι (.chan (some n))):=by
 obtain ⟨base,c,ho,_,hb⟩:=hS.obj n _ hn
 have e : conc ι (.chan (some n)) = .slice base len c:=by simp [conc,Ren.chan,ho,okOpq]
 rw [deepOk_slv,e]
 by_cases hl : len = 0
 ·exact .inl ⟨hl,h0 hl,base,c,by rw [hl]⟩
 ·rcases hb with hb | rfl
  ·exact absurd hb hl
  refine .inr ⟨_,_,c,rfl,fun i u hu => ?_⟩
  obtain ⟨h1,h2,h3,h4⟩:=hS.ro r _ hr i u hu
  obtain ⟨g1,g2⟩:=hS.fro _ h2
  exact ⟨heap_lt g1 g2,hF _ h2,by rw [World.cell?_of_block g2];exact h3,h4⟩
theorem oCn_get {l : List Nd} (hl : l.length < 16777216) : (l.length ≠ 0 → (mkHp 400000000 (oCn l l.length)).get 2 = some (.cells (rows (cellC l) l.length) 16))∧∀ j,j < l.length → (mkHp 400000000 (oCn l l.length)).get (1000 + 4 * j) = some (.rov (bv (ndAt l j).bs))∧(mkHp 400000000 (oCn l l.length)).get (1001 + 4 * j) = some (.word (ndAt l j).bs.length (1000 + 4 * j))∧(mkHp 400000000 (oCn l l.length)).get (1002 + 4 * j) = some (.rov (av (ndAt l j).es))∧(mkHp 400000000 (oCn l l.length)).get (1003 + 4 * j) = some (.word (ndAt l j).es.length (1002 + 4 * j)):=by
 have hno : ∀ n,1000 ≤ n → look (oCk l l.length) n = none:=fun n hn => look_none fun q hq => by
  rcases oCk_mem hq with rfl | rfl | ⟨_,rfl⟩ <;> simp only <;> omega
 refine ⟨fun h0 => ?_,fun j hj => ?_⟩
 ·rw [hp_get (oCn_small (by omega)),oCn,look_app]
  have : ∀ k,k ≠ 0 → look (oCk l k) 2 = some (.cells (rows (cellC l) k) 16):=fun k hk => by
   cases k with
   | zero => exact absurd rfl hk
   | succ k => rfl
  rw [this _ h0]
 ·obtain ⟨g1,g2,g3,g4⟩:=kidsC_look (l:=l) hj
  rw [hp_get (oCn_small (by omega)),hp_get (oCn_small (by omega)),hp_get (oCn_small (by omega)),hp_get (oCn_small (by omega)),oCn,look_app,look_app,look_app,look_app,hno _ (by omega),hno _ (by omega),hno _ (by omega),hno _ (by omega)]
  exact ⟨g1,g2,g3,g4⟩
theorem holds10 {l : List Nd} (hl : l.length < 16777216) : wordZ (mkHp 400000000 (oCn l l.length)) (v10 l.length) (.d (nodesD l) l.length):=by
 obtain ⟨g2,gk⟩:=oCn_get hl
 by_cases h0 : l.length = 0
 ·intro pr w0 ι w hS F hF hlv
  refine ⟨none,0,by rw [h0];simp [conc,Wd.len,v10],(0,0),.inl h0,fun i hi => ?_⟩
  rw [nodesD,h0] at hi
  simp [rows] at hi
 ·have hv : v10 l.length = .slice (some ⟨2,0,none⟩) l.length (2 * l.length + 1):=by
   have : ∀ k,k ≠ 0 → v10 k = .slice (some ⟨2,0,none⟩) k (2 * k + 1):=fun k hk => by
    cases k with
    | zero => exact absurd rfl hk
    | succ k => rfl
   exact this _ h0
  rw [hv]
  intro pr w0 ι w hS F hF hlv
  have hr : RefG ι F w (nodesD l) (rows (cellC l) l.length):=RefG.rows fun j hj => by
   obtain ⟨k1,k2,k3,k4⟩:=gk j hj
   have s1 : DeepOk F w (.val (.string (ndAt l j).nm)) (conc ι (.string (ndAt l j).nm)):=by rw [deepOk_val];exact ⟨by simp,fun ι => by simp⟩
   refine .cons s1 (.cons (word_slv hS hF k1 k2 fun h => ?_) (.cons (word_slv hS hF k3 k4 fun h => ?_) (refG_tail _ _ rfl)))
   ·have h : (ndAt l j).bs = []:=List.length_eq_zero_iff.1 h
    show bv (ndAt l j).bs = [];rw [h];rfl
   ·have h : (ndAt l j).es = []:=List.length_eq_zero_iff.1 h
    show av (ndAt l j).es = [];rw [h];rfl
  refine ⟨_,_,conc_slice ι _ _ _,((ι.loc 2).1,(ι.loc 2).2 + 0),.inr rfl,fun i hi => ?_⟩
  have hi1 : i < (rows (cellC l) l.length).length:=by rw [← hr.1];exact hi
  obtain ⟨c1,_⟩:=(hS.obj 2 _ (g2 h0)).1 i _ (List.getElem?_eq_getElem hi1)
  exact ⟨Go.block_lt_of_cell c1,hlv 2 _ (g2 h0) rfl,_,by show w.cell? _ = _;simpa using c1,hr.2 i _ _ (List.getElem?_eq_getElem hi) (List.getElem?_eq_getElem hi1)⟩
def K10 (l : List Nd) : ConW:=⟨fun X => [X 0],[.d (nodesD l) l.length],fun σ => .chan (some (σ 3)),fun σ => [.ro (nodesD l),.word l.length (σ 2)]⟩
theorem con10 {l : List Nd} (hl : l.length < 16777216) (hs : ∀ nd ∈ l,nd.small) : ConWG Tab Tryz.prog 10 (K10 l) :=
 conW_word tab_stands (args:=fun X => [X 0]) (ws:=[.d (nodesD l) l.length]) (.d (nodesD l) l.length) (by simp [limit]) (by simp) (by intro ι ι' f g h;simp [h 0 (by simp)]) (con10L hl hs) (holds10 hl)
end Go.Abs
end
