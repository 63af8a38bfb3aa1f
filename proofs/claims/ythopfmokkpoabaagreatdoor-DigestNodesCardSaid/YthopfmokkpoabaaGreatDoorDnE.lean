/-
  What the law's functions come to: part E.
-/
import Derived.Test.YthopfmokkpoabaaGreatDoorDnA
import Derived.Test.YthopfmokkpoabaaGreatDoorBmE
import Derived.Test.YthopfmokkpoabaaGreatDoorDnD
set_option linter.unusedVariables false
set_option linter.unusedSimpArgs false
set_option linter.unusedSectionVars false
section
namespace Go.Abs
open Go.Proofs
set_option maxRecDepth 100000
def oL (n : Nat) (ds : List Deep) (vs : List Value) : List (Nat × AObj):=[(0,.ro ds),(1,.word n 0),(2,.cells vs 0)]
theorem eLa_came (n : Nat) (m : Nat) (k : Nat) (ds : List Deep) (vs : List Value) (bs : List Int) (es : List Ent) (nm : ByteArray) (x : Nat → Int) (h0 : decide ((↑k : Int) < (↑m : Int)) = true) (h1 : decide ((↑k : Int) < (↑n : Int)) = true) (h2 : 0 ≤ (↑k : Int)∧(↑k : Int) < (↑n : Int)) (h3 : List.take 16 (List.drop (0 + Int.toNat (↑k : Int) * 16) ds) = nodeD nm bs es x) (h4 : 0 ≤ (↑k : Int)∧(↑k : Int) < (↑m : Int)) (h5 : 0 + Int.toNat (↑k : Int) * 16 + 16 ≤ List.length vs∧true = true) :
  Ran (codeO Tryz.prog E1 (s5 bs es nm x) noRun 100 5 [0,0,1,0,1,1] (codeAt Tryz.f5 [0,0,1,0,1,1]) (mkFr 38 (t5 m k)) (mkHp 400000000 (oL n ds vs)) [.skip 4,.b true,.skip 4,.b true,.skip 4,.sym,.dp (nodeD nm bs es x),.skip 1,.sym,.sym] True) (Exit.normal) 38 [(0,Value.chan (some 1)),(3,Value.slice (some ⟨2,0,none⟩) m (2 * m)),(4,Value.int .i64 (IntKind.wrap .i64 ((↑k : Int) + 1)))] [(0,AObj.ro ds),(1,AObj.word n 0),(2,AObj.cells (putAt vs (0 + Int.toNat (↑k : Int) * 16) [Value.string nm,Value.slice (some ⟨400000012,0,none⟩) (List.length bs) (2 * (List.length bs + 64)),Value.slice (some ⟨400000015,0,none⟩) (List.length es) (2 * (List.length es + 64)),Value.int .u32 (x 0),Value.int .u32 (x 1),Value.int .u32 (x 2),Value.int .u32 (x 3),Value.int .u32 (x 4),Value.int .u32 (x 5),Value.int .i32 (x 6),Value.int .i32 (x 7),Value.int .i32 (x 8),Value.int .i64 (x 9),Value.int .i64 (x 10),Value.int .i64 (x 11),Value.int .i32 (x 12)]) 0),(400000000,AObj.rov (bv bs)),(400000001,AObj.word (List.length bs) 400000000),(400000002,AObj.rov (av es)),(400000003,AObj.word (List.length es) 400000002),(400000004,AObj.rov (bv bs)),(400000005,AObj.word (List.length bs) 400000004),(400000006,AObj.rov (av es)),(400000007,AObj.word (List.length es) 400000006),(400000008,AObj.cells [Value.string nm,Value.slice (some ⟨400000012,0,none⟩) (List.length bs) (2 * (List.length bs + 64)),Value.slice (some ⟨400000015,0,none⟩) (List.length es) (2 * (List.length es + 64)),Value.int .u32 (x 0),Value.int .u32 (x 1),Value.int .u32 (x 2),Value.int .u32 (x 3),Value.int .u32 (x 4),Value.int .u32 (x 5),Value.int .i32 (x 6),Value.int .i32 (x 7),Value.int .i32 (x 8),Value.int .i64 (x 9),Value.int .i64 (x 10),Value.int .i64 (x 11),Value.int .i32 (x 12)] 0),(400000009,AObj.cells [Value.string nm,Value.slice (some ⟨400000012,0,none⟩) (List.length bs) (2 * (List.length bs + 64)),Value.slice (some ⟨400000015,0,none⟩) (List.length es) (2 * (List.length es + 64)),Value.int .u32 (x 0),Value.int .u32 (x 1),Value.int .u32 (x 2),Value.int .u32 (x 3),Value.int .u32 (x 4),Value.int .u32 (x 5),Value.int .i32 (x 6),Value.int .i32 (x 7),Value.int .i32 (x 8),Value.int .i64 (x 9),Value.int .i64 (x 10),Value.int .i64 (x 11),Value.int .i32 (x 12)] 0),(400000010,AObj.rov (bv bs)),(400000011,AObj.word (List.length bs) 400000010),(400000012,AObj.cells (row26 bs (List.length bs + 64)) 0),(400000013,AObj.rov (av es)),(400000014,AObj.word (List.length es) 400000013),(400000015,AObj.cells (row27 es (List.length es + 64)) 0)] 400000016 :=
 cameF_of (O:=let x0:=Array.mk [Value.string nm,Value.chan (some 400000001),Value.chan (some 400000003),Value.int .u32 (x 0),Value.int .u32 (x 1),Value.int .u32 (x 2),Value.int .u32 (x 3),Value.int .u32 (x 4),Value.int .u32 (x 5),Value.int .i32 (x 6),Value.int .i32 (x 7),Value.int .i32 (x 8),Value.int .i64 (x 9),Value.int .i64 (x 10),Value.int .i64 (x 11),Value.int .i32 (x 12)];let x1:=Wd.v (bv bs) (List.length bs);let x2:=Wd.v (av es) (List.length es);((((((True∧decide ((↑k : Int) < (↑m : Int)) = true)∧decide ((↑k : Int) < (↑n : Int)) = true)∧0 ≤ (↑k : Int)∧(↑k : Int) < (↑n : Int))∧List.take 16 (List.drop (0 + Int.toNat (↑k : Int) * 16) ds) = nodeD nm bs es x)∧[Value.agg x0] = [Value.agg x0]∧(Wd.len x1 = Wd.len x1∧bv bs = bv bs)∧(Wd.len x2 = Wd.len x2∧av es = av es)∧True)∧0 ≤ (↑k : Int)∧(↑k : Int) < (↑m : Int))∧0 + Int.toNat (↑k : Int) * 16 + 16 ≤ List.length vs∧true = true) (by kernel_rfl) ⟨⟨⟨⟨⟨⟨⟨trivial,h0⟩,h1⟩,h2⟩,h3⟩,⟨rfl,⟨⟨rfl,rfl⟩,⟨⟨rfl,rfl⟩,trivial⟩⟩⟩⟩,h4⟩,h5⟩
theorem eLb_came (n : Nat) (m : Nat) (k : Nat) (ds : List Deep) (vs : List Value) (h0 : decide ((↑k : Int) < (↑m : Int)) = true) (h1 : decide ((↑k : Int) < (↑n : Int)) = false) (h2 : Int.NonNeg (IntKind.wrap .i64 (-3000000 - (↑k : Int)) - -9223372036854775808)∧Int.NonNeg (9223372036854775807 - IntKind.wrap .i64 (-3000000 - (↑k : Int)))) (h3 : 0 ≤ (↑k : Int)∧(↑k : Int) < (↑m : Int)) (h4 : 0 + Int.toNat (↑k : Int) * 16 + 16 ≤ List.length vs∧true = true) :
  Ran (codeO Tryz.prog E1 (smM) noRun 100 5 [0,0,1,0,1,1] (codeAt Tryz.f5 [0,0,1,0,1,1]) (mkFr 38 (t5 m k)) (mkHp 400000000 (oL n ds vs)) [.skip 4,.b true,.skip 4,.b false,.skip 6,.sym,.sym] True) (Exit.normal) 38 [(0,Value.chan (some 1)),(3,Value.slice (some ⟨2,0,none⟩) m (2 * m)),(4,Value.int .i64 (IntKind.wrap .i64 ((↑k : Int) + 1)))] [(0,AObj.ro ds),(1,AObj.word n 0),(2,AObj.cells (putAt vs (0 + Int.toNat (↑k : Int) * 16) [Value.string (ByteArray.mk (List.toArray (markT (IntKind.wrap .i64 (-3000000 - (↑k : Int)))))),Value.slice none 0 0,Value.slice none 0 0,Value.int .u32 0,Value.int .u32 0,Value.int .u32 0,Value.int .u32 0,Value.int .u32 0,Value.int .u32 0,Value.int .i32 0,Value.int .i32 0,Value.int .i32 0,Value.int .i64 0,Value.int .i64 0,Value.int .i64 0,Value.int .i32 0]) 0)] 400000000 :=
 cameF_of (O:=(((((True∧decide ((↑k : Int) < (↑m : Int)) = true)∧decide ((↑k : Int) < (↑n : Int)) = false)∧Int.NonNeg (IntKind.wrap .i64 (-3000000 - (↑k : Int)) - -9223372036854775808)∧Int.NonNeg (9223372036854775807 - IntKind.wrap .i64 (-3000000 - (↑k : Int))))∧0 ≤ (↑k : Int)∧(↑k : Int) < (↑m : Int))∧0 + Int.toNat (↑k : Int) * 16 + 16 ≤ List.length vs∧true = true)) (by kernel_rfl) ⟨⟨⟨⟨⟨trivial,h0⟩,h1⟩,h2⟩,h3⟩,h4⟩
theorem eLc_came (n : Nat) (m : Nat) (k : Nat) (ds : List Deep) (vs : List Value) (h0 : decide ((↑k : Int) < (↑m : Int)) = false) :
  Ran (codeO Tryz.prog E1 (smM) noRun 100 5 [0,0,1,0,1,1] (codeAt Tryz.f5 [0,0,1,0,1,1]) (mkFr 38 (t5 m k)) (mkHp 400000000 (oL n ds vs)) [.skip 4,.b false] True) (Exit.exit 0) 38 [(0,Value.chan (some 1)),(3,Value.slice (some ⟨2,0,none⟩) m (2 * m)),(4,Value.int .i64 (↑k : Int))] [(0,AObj.ro ds),(1,AObj.word n 0),(2,AObj.cells vs 0)] 400000000 :=
 cameF_of (O:=(True∧decide ((↑k : Int) < (↑m : Int)) = false)) (by kernel_rfl) ⟨trivial,h0⟩
theorem pL2_came (n : Nat) (m : Nat) (ds : List Deep) (vs : List Value)  :
  Ran (codeO Tryz.prog E1 (sm0) noRun 100 5 [0,0,1,1] (codeAt Tryz.f5 [0,0,1,1]) (mkFr 38 [(0,Value.chan (some 1)),(3,Value.slice (some ⟨2,0,none⟩) m (2 * m))]) (mkHp 3 (oL n ds vs)) [] True) (Exit.normal) 38 [(0,Value.chan (some 1)),(3,Value.slice (some ⟨2,0,none⟩) m (2 * m)),(4,Value.int .i64 0)] [(0,AObj.ro ds),(1,AObj.word n 0),(2,AObj.cells vs 0)] 3 :=
 cameF_of (O:=True) (by kernel_rfl) trivial
theorem pL3_came (n : Nat) (m : Nat) (ds : List Deep) (vs : List Value) (h0 : 0 ≤ (↑n : Int)) (h1 : (↑n : Int) ≤ (↑(capOf (2 * m)) : Int)) (h2 : 0 ≤ capOf (2 * m)) (h3 : 0 ≠ capOf (2 * m)) :
  Ran (codeO Tryz.prog E1 (sm0) noRun 100 5 [1,1,1] (codeAt Tryz.f5 [1,1,1]) (mkFr 38 [(0,Value.chan (some 1)),(3,Value.slice (some ⟨2,0,none⟩) m (2 * m))]) (mkHp 400000000 (oL n ds vs)) [.skip 3,.sym] True) (Exit.ret) 38 [(2,Value.slice (some ⟨2,0,none⟩) n (2 * m - 0))] [(0,AObj.ro ds),(1,AObj.word n 0),(2,AObj.cells vs 0)] 400000000 :=
 cameF_of (O:=(True∧((0 ≤ (↑n : Int)∧(↑n : Int) ≤ (↑(capOf (2 * m)) : Int))∧True∧0 ≤ capOf (2 * m))∧0 ≠ capOf (2 * m))) (by kernel_rfl) ⟨trivial,⟨⟨⟨h0,h1⟩,⟨trivial,h2⟩⟩,h3⟩⟩
def kidD (nd : Nd) : AObj:=.cells (row26 nd.bs (nd.bs.length + 64)) 0
def kidA (nd : Nd) : AObj:=.cells (row27 nd.es (nd.es.length + 64)) 0
def kidsJ (l : List Nd) (j : Nat) : List (Nat × AObj):=match l[j]? with
 | some nd => [(1000 + 2 * j,kidD nd),(1001 + 2 * j,kidA nd)]
 | none => []
def kidsO (l : List Nd) (k : Nat) : List (Nat × AObj):=rows (kidsJ l) k
def cellN (l : List Nd) (j : Nat) : List Value:=match l[j]? with
 | some nd => nodeV nd.nm (.slice (some ⟨1000 + 2 * j,0,none⟩) nd.bs.length (2 * (nd.bs.length + 64))) (.slice (some ⟨1001 + 2 * j,0,none⟩) nd.es.length (2 * (nd.es.length + 64))) nd.x
 | none => nodeV (markS j) (.slice none 0 0) (.slice none 0 0) (fun _ => 0)
def vsN (l : List Nd) (m k : Nat) : List Value:=fill (cellN l) (fun _ => zeroN) m k
def oNest (l : List Nd) (m k : Nat) : List (Nat × AObj):=oL l.length (nodesD l) (vsN l m k) ++ kidsO l k
theorem kidsO_mem {l : List Nd} {k : Nat} {p : Nat × AObj} (h : p ∈ kidsO l k) : ∃ j,j < k∧∃ nd,l[j]? = some nd∧(p = (1000 + 2 * j,kidD nd) ∨ p = (1001 + 2 * j,kidA nd)):=by
 obtain ⟨j,hj,h1⟩:=rows_mem h
 unfold kidsJ at h1
 split at h1
 ·rename_i nd hnd
  simp only [List.mem_cons,List.not_mem_nil,or_false] at h1
  exact ⟨j,hj,nd,hnd,h1⟩
 ·cases h1
theorem kidsO_look {l : List Nd} {j : Nat} {nd : Nd} (hn : l[j]? = some nd) : ∀ {k : Nat},j < k → look (kidsO l k) (1000 + 2 * j) = some (kidD nd)∧look (kidsO l k) (1001 + 2 * j) = some (kidA nd)
 | 0,h => absurd h (Nat.not_lt_zero _)
 | k + 1,h => by
  rw [kidsO,rows_succ,← kidsO,look_app,look_app]
  by_cases hk : j < k
  ·obtain ⟨h1,h2⟩:=kidsO_look hn hk
   rw [h1,h2];exact ⟨rfl,rfl⟩
  ·obtain rfl : j = k:=by omega
   have hno : ∀ n,1000 + 2 * j ≤ n → look (kidsO l j) n = none:=fun n hn => look_none fun p hp => by
    obtain ⟨i,hi,nd',_,rfl | rfl⟩:=kidsO_mem hp <;> simp only <;> omega
   rw [hno _ (by omega),hno _ (by omega)]
   simp only [kidsJ,hn,look]
   rw [if_neg (show ¬ 1001 + 2 * j = 1000 + 2 * j by omega),if_pos trivial,if_pos trivial]
   exact ⟨rfl,rfl⟩
theorem cellN_len (l : List Nd) (j : Nat) : (cellN l j).length = 16:=by unfold cellN;split <;> rfl
theorem nodeV_mem {nm : ByteArray} {d a v : Value} {x : Nat → Int} (h : v ∈ nodeV nm d a x) : v = .string nm ∨ v = d ∨ v = a ∨ ∃ k i,v = .int k i:=by
 simp only [nodeV,List.mem_cons,List.not_mem_nil,or_false] at h
 rcases h with h | h | h | h | h | h | h | h | h | h | h | h | h | h | h | h
 ·exact .inl h
 ·exact .inr (.inl h)
 ·exact .inr (.inr (.inl h))
 all_goals exact .inr (.inr (.inr ⟨_,_,h⟩))
theorem vsN_mem {l : List Nd} {m k : Nat} {v : Value} (h : v ∈ vsN l m k) : (∃ s,v = .string s) ∨ (∃ kk i,v = .int kk i) ∨ v = .slice none 0 0 ∨ ∃ j n c,j < k∧j < l.length∧(v = .slice (some ⟨1000 + 2 * j,0,none⟩) n c ∨ v = .slice (some ⟨1001 + 2 * j,0,none⟩) n c):=by
 obtain ⟨j,hj,h1⟩:=rows_mem h
 simp only at h1
 split at h1
 ·rename_i hjk
  unfold cellN at h1
  split at h1
  ·rename_i nd hnd
   have hjl:=(List.getElem?_eq_some_iff.1 hnd).1
   rcases nodeV_mem h1 with h | h | h | h
   ·exact .inl ⟨_,h⟩
   ·exact .inr (.inr (.inr ⟨j,_,_,hjk,hjl,.inl h⟩))
   ·exact .inr (.inr (.inr ⟨j,_,_,hjk,hjl,.inr h⟩))
   ·exact .inr (.inl h)
  ·rcases nodeV_mem h1 with h | h | h | h
   ·exact .inl ⟨_,h⟩
   ·exact .inr (.inr (.inl h))
   ·exact .inr (.inr (.inl h))
   ·exact .inr (.inl h)
 ·rcases nodeV_mem h1 with h | h | h | h
  ·exact .inl ⟨_,h⟩
  ·exact .inr (.inr (.inl h))
  ·exact .inr (.inr (.inl h))
  ·exact .inr (.inl h)
theorem vsN_bd {l : List Nd} (hl : l.length < 16777216) {m k : Nat} : ∀ v ∈ vsN l m k,Bd 400000000 v:=by
 intro v hv
 rcases vsN_mem hv with ⟨s,rfl⟩ | ⟨kk,i,rfl⟩ | rfl | ⟨j,n,c,h1,h2,rfl | rfl⟩ <;> simp <;> omega
theorem oL_bd {l : List Nd} (hl : l.length < 16777216) {m k : Nat} : ∀ p ∈ oL l.length (nodesD l) (vsN l m k),p.1 < 400000000∧BdO 400000000 p.2:=by
 intro p hp
 simp only [oL,List.mem_cons,List.not_mem_nil,or_false] at hp
 rcases hp with rfl | rfl | rfl
 ·exact ⟨by simp,trivial⟩
 ·exact ⟨by simp,by simp [BdO]⟩
 ·exact ⟨by simp,vsN_bd hl⟩
theorem kids_small {l : List Nd} (hl : l.length < 16777216) (k : Nat) : smallN (kidsO l k) = true:=by
 refine List.all_eq_true.2 fun p hp => ?_
 obtain ⟨j,_,nd,hnd,rfl | rfl⟩:=kidsO_mem hp
 all_goals
  have hjl:=(List.getElem?_eq_some_iff.1 hnd).1
  simp only [Nat.blt_eq,limit]
  omega
theorem kids_oth {l : List Nd} (hl : l.length < 16777216) {k : Nat} {n : Nat} {ds : List Deep} {vs : List Value} : ∀ p ∈ kidsO l k,p.1 < 400000000∧∀ q ∈ oL n ds vs,q.1 ≠ p.1:=by
 intro p hp
 obtain ⟨j,_,nd,hnd,rfl | rfl⟩:=kidsO_mem hp
 all_goals
  have hjl:=(List.getElem?_eq_some_iff.1 hnd).1
  refine ⟨by simp only;omega,fun q hq => ?_⟩
  simp only [oL,List.mem_cons,List.not_mem_nil,or_false] at hq
  rcases hq with rfl | rfl | rfl <;> simp only <;> omega
theorem kid_up {σ : Nat → Nat} (nd : Nd) : upO σ (kidD nd) = kidD nd∧upO σ (kidA nd) = kidA nd:=by
 constructor
 ·rw [kidD,upO,(row26_plain _ _).map σ]
 ·rw [kidA,upO,(row27_plain _ _).map σ]
theorem kid_bd (nd : Nd) (N : Nat) : BdO N (kidD nd)∧BdO N (kidA nd):=⟨fun v hv => ((row26_plain _ _) v hv).1 N,fun v hv => ((row27_plain _ _) v hv).1 N⟩
theorem vsN_len (l : List Nd) (m k : Nat) : (vsN l m k).length = m * 16:=fill_length (s:=16) (fun _ _ => cellN_len _ _) (fun _ _ => rfl)
theorem vsN_up {l : List Nd} {m k : Nat} {σ : Nat → Nat} (h : ∀ j,j < k → σ (1000 + 2 * j) = 1000 + 2 * j∧σ (1001 + 2 * j) = 1001 + 2 * j) : (vsN l m k).map (upV σ) = vsN l m k:=by
 have : (vsN l m k).map (upV σ) = (vsN l m k).map id:=List.map_congr_left fun v hv => by
  rcases vsN_mem hv with ⟨s,rfl⟩ | ⟨kk,i,rfl⟩ | rfl | ⟨j,n,c,h1,h2,rfl | rfl⟩
  ·simp [upV]
  ·simp [upV]
  ·simp [upV]
  ·simp [upV,(h j h1).1]
  ·simp [upV,(h j h1).2]
 rw [this,List.map_id]
theorem t5_ok {m k : Nat} {N : Nat} (hN : 3 ≤ N) : ∀ p ∈ t5 m k,Bd N p.2∧look (t5 m k) p.1 = some p.2:=by
 intro p hp
 simp only [t5,List.mem_cons,List.not_mem_nil,or_false] at hp
 rcases hp with rfl | rfl | rfl
 ·exact ⟨by simp;omega,rfl⟩
 ·exact ⟨by simp;omega,rfl⟩
 ·exact ⟨by simp,rfl⟩
def sgK (k n : Nat) : Nat:=if n = 1000 + 2 * k then 400000012 else if n = 1001 + 2 * k then 400000015 else n
theorem sgK_low {k n : Nat} (h : n < 1000 + 2 * k) : sgK k n = n:=by unfold sgK;rw [if_neg (by omega),if_neg (by omega)]
theorem sgK_D (k : Nat) : sgK k (1000 + 2 * k) = 400000012:=if_pos rfl
theorem sgK_A (k : Nat) : sgK k (1001 + 2 * k) = 400000015:=by unfold sgK;rw [if_neg (by omega),if_pos rfl]
def osR (l : List Nd) (m k : Nat) (nd : Nd) : List (Nat × AObj):=[(0,.ro (nodesD l)),(1,.word l.length 0),(2,.cells (putAt (vsN l m k) (k * 16) (nodeV nd.nm (.slice (some ⟨400000012,0,none⟩) nd.bs.length (2 * (nd.bs.length + 64))) (.slice (some ⟨400000015,0,none⟩) nd.es.length (2 * (nd.es.length + 64))) nd.x)) 0),(400000012,kidD nd),(400000015,kidA nd)]
theorem putAt_mem {α : Type} {a x : List α} {i : Nat} {v : α} (h : v ∈ putAt a i x) : v ∈ a ∨ v ∈ x:=by
 simp only [putAt,List.mem_append] at h
 rcases h with h | h | h
 ·exact .inl (List.mem_of_mem_take h)
 ·exact .inr h
 ·exact .inl (List.mem_of_mem_drop h)
theorem putAt_map {α β : Type} (f : α → β) (a x : List α) (i : Nat) : (putAt a i x).map f = putAt (a.map f) i (x.map f):=by
 simp [putAt]
theorem osR_bd {l : List Nd} (hl : l.length < 16777216) {m k : Nat} (nd : Nd) : ∀ p ∈ osR l m k nd,p.1 < 400000016∧BdO 400000016 p.2:=by
 intro p hp
 simp only [osR,List.mem_cons,List.not_mem_nil,or_false] at hp
 rcases hp with rfl | rfl | rfl | rfl | rfl
 ·exact ⟨by simp,trivial⟩
 ·exact ⟨by simp,by simp [BdO]⟩
 ·refine ⟨by simp,fun v hv => ?_⟩
  rcases putAt_mem hv with h | h
  ·exact Bd.mono (by decide) _ (vsN_bd hl v h)
  ·rcases nodeV_mem h with rfl | rfl | rfl | ⟨_,_,rfl⟩ <;> simp
 ·exact ⟨by simp,(kid_bd nd _).1⟩
 ·exact ⟨by simp,(kid_bd nd _).2⟩
theorem nest_small {l : List Nd} (hl : l.length < 16777216) (m k : Nat) : smallN (oNest l m k) = true:=smallN_app rfl (kids_small hl k)
theorem nest_name {l : List Nd} {m k : Nat} {p : Nat × AObj} (h : p ∈ oNest l m k) : p.1 < 1000 + 2 * k:=by
 rcases List.mem_append.1 h with h | h
 ·simp only [oL,List.mem_cons,List.not_mem_nil,or_false] at h
  rcases h with rfl | rfl | rfl <;> simp only <;> omega
 ·obtain ⟨j,hj,nd,_,rfl | rfl⟩:=kidsO_mem h <;> simp only <;> omega
theorem nest_bd {l : List Nd} (hl : l.length < 16777216) {m k : Nat} : ∀ p ∈ oNest l m k,p.1 < 400000000∧BdO 400000000 p.2:=by
 intro p hp
 rcases List.mem_append.1 hp with h | h
 ·exact oL_bd hl p h
 ·refine ⟨(kids_oth (n:=0) (ds:=[]) (vs:=[]) hl p h).1,?_⟩
  obtain ⟨j,hj,nd,_,rfl | rfl⟩:=kidsO_mem h
  ·exact (kid_bd nd _).1
  ·exact (kid_bd nd _).2
theorem sgK_inj {k n m : Nat} (hk : k < 16777216) (hn : n < 1002 + 2 * k) (hm : m < 1002 + 2 * k) (h : n ≠ m) : sgK k n ≠ sgK k m:=by
 unfold sgK
 split <;> split <;> (try split) <;> (try split) <;> omega
theorem vsN_next {l : List Nd} {m k : Nat} (hk : k < m) : vsN l m (k + 1) = putAt (vsN l m k) (k * 16) (cellN l k):=(fill_put (s:=16) (fun _ _ => cellN_len _ _) (fun _ _ => rfl) hk).symm
theorem roundN {l : List Nd} (hl : l.length < 16777216) (hs : ∀ nd ∈ l,nd.small) {k : Nat} (hk : k < l.length) {pr : Prot} {w0 : World} (hG : Tab pr w0) {N : Nat} (hN : N ≤ 1000) :
  Tri Tryz.prog pr w0 N (codeAt Tryz.f5 [0,0,1,0,1,1]) (mkFr 38 (t5 (l.length + 64) k)) (mkHp 400000000 (oNest l (l.length + 64) k)) fun e f m => e = .normal∧f = mkFr 38 (t5 (l.length + 64) (k + 1))∧m = mkHp 400000000 (oNest l (l.length + 64) (k + 1)):=by
 have hh : Here E1 5 [0,0,1,0,1,1] (codeAt Tryz.f5 [0,0,1,0,1,1]):=codeAt_here (fn:=Tryz.f5) (by kernel_rfl) (by kernel_rfl)
 have hsm:=hs l[k] (List.getElem_mem hk)
 have hek : l[k]? = some l[k]:=List.getElem?_eq_getElem hk
 have hk0 : 0 + Int.toNat (k : Int) * 16 = k * 16:=by simp
 have hc:=eLa_came l.length (l.length + 64) k (nodesD l) (vsN l (l.length + 64) k) l[k].bs l[k].es l[k].nm l[k].x (by simp;omega) (by simp;omega) (by omega) (nodesD_get hk) (by omega) ⟨by rw [hk0,vsN_len];omega,rfl⟩
 rw [hk0,i64_succ (by omega)] at hc
 have h:=came_lift hP1 tab_stands hG (fun pr w0 hG => withS_ok (smM_ok pr w0 hG) (pk11_ok hG hsm.1 hsm.2)) hh (by simp) hc (t5 (l.length + 64) (k + 1)) (osR l (l.length + 64) k l[k]) (kidsO l k) rfl (t5_ok (by decide)) (by simp [t5]) (by simp [osR,kidD,kidA,nodeV])
  ⟨rfl,rfl,fun p hp => (t5_ok (N:=400000016) (by decide) p hp).1,fun p hp => ⟨Nat.lt_of_lt_of_le (osR_bd hl _ p hp).1 (by decide),((osR_bd hl (m:=l.length + 64) (k:=k) l[k] p hp).2)⟩,by decide,by decide⟩ rfl (oL_bd hl) (kids_small hl k) (kids_oth hl) (N:=N)
 refine tri_turn (by simp) (sgK k) h (fun n hn => sgK_low (by omega)) (by simp only [mkHp];omega) (keeps_list (smallN_app rfl (kids_small hl k)) (nest_small hl _ _) (fun p hp => ⟨(nest_bd hl p hp).1,(nest_bd hl p hp).2,?_⟩) (fun p hp q hq _ _ hne => sgK_inj (by omega) (by have:=nest_name hp;omega) (by have:=nest_name hq;omega) hne) (by decide)) (keepsF_list rfl rfl fun p hp => ?_) ⟨rfl,rfl,rfl⟩
 ·rcases List.mem_append.1 hp with hp | hp
  ·simp only [oL,List.mem_cons,List.not_mem_nil,or_false] at hp
   rcases hp with rfl | rfl | rfl
   ·rw [sgK_low (by simp only;omega)];rfl
   ·rw [sgK_low (by simp only;omega)]
    simp only [look_app,osR,look,upO]
    rw [sgK_low (by omega)];rfl
   ·rw [sgK_low (by simp only;omega)]
    have e : (vsN l (l.length + 64) (k + 1)).map (upV (sgK k)) = putAt (vsN l (l.length + 64) k) (k * 16) (nodeV l[k].nm (.slice (some ⟨400000012,0,none⟩) l[k].bs.length (2 * (l[k].bs.length + 64))) (.slice (some ⟨400000015,0,none⟩) l[k].es.length (2 * (l[k].es.length + 64))) l[k].x):=by
     rw [vsN_next (by omega),putAt_map,vsN_up fun j hj => ⟨sgK_low (by omega),sgK_low (by omega)⟩]
     congr 1
     simp [cellN,hek,nodeV,upV,sgK_D,sgK_A]
    simp only [upO,e]
    rfl
  ·obtain ⟨j,hj,nd,hnd,hp⟩:=kidsO_mem hp
   have hjl:=(List.getElem?_eq_some_iff.1 hnd).1
   by_cases hjk : j < k
   ·obtain ⟨g1,g2⟩:=kidsO_look hnd hjk
    have hno : ∀ n,1000 ≤ n → n < 400000000 → look (osR l (l.length + 64) k l[k]) n = none:=fun n h1 h2 => look_none fun q hq => by
     simp only [osR,List.mem_cons,List.not_mem_nil,or_false] at hq
     rcases hq with rfl | rfl | rfl | rfl | rfl <;> simp only <;> omega
    rcases hp with rfl | rfl
    ·rw [sgK_low (by simp only;omega),look_app,hno _ (by simp only;omega) (by simp only;omega),(kid_up nd).1];exact g1
    ·rw [sgK_low (by simp only;omega),look_app,hno _ (by simp only;omega) (by simp only;omega),(kid_up nd).2];exact g2
   ·obtain rfl : j = k:=by omega
    rw [hek] at hnd
    cases hnd
    rcases hp with rfl | rfl
    ·rw [sgK_D,look_app,(kid_up _).1];rfl
    ·rw [sgK_A,look_app,(kid_up _).2];rfl
 ·have hb:=t5_ok (m:=l.length + 64) (k:=k + 1) (N:=400000000) (by decide) p hp
  refine ⟨hb.1,?_⟩
  rw [hb.2]
  simp only [t5,List.mem_cons,List.not_mem_nil,or_false] at hp
  rcases hp with rfl | rfl | rfl
  ·simp [upV,sgK_low (k:=k) (n:=1) (by omega)]
  ·simp [upV,sgK_low (k:=k) (n:=2) (by omega)]
  ·simp [upV]
theorem kids_stop {l : List Nd} {k : Nat} (h : l.length ≤ k) : kidsO l (k + 1) = kidsO l k:=by
 rw [kidsO,rows_succ,kidsJ,List.getElem?_eq_none h,List.append_nil];rfl
theorem hhW : Here E1 5 [0,0,1,0,1,1] (codeAt Tryz.f5 [0,0,1,0,1,1]):=codeAt_here (fn:=Tryz.f5) (by kernel_rfl) (by kernel_rfl)
theorem roundM {l : List Nd} (hl : l.length < 16777216) {k : Nat} (hk : l.length ≤ k) (hm : k < l.length + 64) {pr : Prot} {w0 : World} (hG : Tab pr w0) {N : Nat} :
  Tri Tryz.prog pr w0 N (codeAt Tryz.f5 [0,0,1,0,1,1]) (mkFr 38 (t5 (l.length + 64) k)) (mkHp 400000000 (oNest l (l.length + 64) k)) fun e f m => e = .normal∧f = mkFr 38 (t5 (l.length + 64) (k + 1))∧m = mkHp 400000000 (oNest l (l.length + 64) (k + 1)):=by
 have hk0 : 0 + Int.toNat (k : Int) * 16 = k * 16:=by simp
 have hc:=eLb_came l.length (l.length + 64) k (nodesD l) (vsN l (l.length + 64) k) (by simp;omega) (by simp;omega) rng_mark (by omega) ⟨by rw [hk0,vsN_len];omega,rfl⟩
 rw [hk0,i64_succ (by omega)] at hc
 have e : vsN l (l.length + 64) (k + 1) = putAt (vsN l (l.length + 64) k) (k * 16) (nodeV (markS k) (.slice none 0 0) (.slice none 0 0) (fun _ => 0)):=by
  rw [vsN_next hm,cellN,List.getElem?_eq_none hk]
 unfold oNest
 rw [kids_stop hk]
 exact came_lift hP1 tab_stands hG (fun pr w0 hG => smM_ok pr w0 hG) hhW (by simp) hc (t5 (l.length + 64) (k + 1)) (oL l.length (nodesD l) (vsN l (l.length + 64) (k + 1))) (kidsO l k) rfl (t5_ok (by decide)) (by simp [t5]) (by rw [e];simp [oL,nodeV,markS])
  ⟨rfl,rfl,fun p hp => (t5_ok (N:=400000000) (by decide) p hp).1,oL_bd hl,by decide,by decide⟩ rfl (oL_bd hl) (kids_small hl k) (kids_oth hl) (N:=N)
def t5f (m : Nat) : List (Nat × Value):=[(0,.chan (some 1)),(3,.slice (some ⟨2,0,none⟩) m (2 * m))]
theorem t5f_ok {m N : Nat} (hN : 3 ≤ N) : ∀ p ∈ t5f m,Bd N p.2∧look (t5f m) p.1 = some p.2:=by
 intro p hp
 simp only [t5f,List.mem_cons,List.not_mem_nil,or_false] at hp
 rcases hp with rfl | rfl
 ·exact ⟨by simp;omega,rfl⟩
 ·exact ⟨by simp;omega,rfl⟩
theorem loopN {l : List Nd} (hl : l.length < 16777216) (hs : ∀ nd ∈ l,nd.small) {pr : Prot} {w0 : World} (hG : Tab pr w0) {N : Nat} (hN : N ≤ 1000) :
  Tri Tryz.prog pr w0 N (.loop (codeAt Tryz.f5 [0,0,1,0,1,1])) (mkFr 38 (t5 (l.length + 64) 0)) (mkHp 400000000 (oNest l (l.length + 64) 0)) fun e f m => e = .exit 0∧f = mkFr 38 (t5f (l.length + 64))∧m = mkHp 400000000 (oNest l (l.length + 64) (l.length + 64)):=by
 refine tri_loop (T:={ k : Nat // k ≤ l.length + 64 }) (fun t => mkFr 38 (t5 (l.length + 64) t.1)) (fun t => mkHp 400000000 (oNest l (l.length + 64) t.1)) (fun t => l.length + 64 - t.1) ?_ ⟨0,Nat.zero_le _⟩
 rintro ⟨k,hk⟩
 by_cases hm : k < l.length + 64
 ·by_cases hkn : k < l.length
  ·refine (roundN hl hs hkn hG hN).weaken ?_
   rintro e f m ⟨rfl,rfl,rfl⟩
   exact .inl (.inl ⟨rfl,⟨k + 1,hm⟩,rfl,rfl,by simp only;omega⟩)
  ·refine (roundM hl (by omega) hm hG).weaken ?_
   rintro e f m ⟨rfl,rfl,rfl⟩
   exact .inl (.inl ⟨rfl,⟨k + 1,hm⟩,rfl,rfl,by simp only;omega⟩)
 ·obtain rfl : k = l.length + 64:=by omega
  have hc:=eLc_came l.length (l.length + 64) (l.length + 64) (nodesD l) (vsN l (l.length + 64) (l.length + 64)) (by simp)
  refine (came_lift hP1 tab_stands hG (fun pr w0 hG => smM_ok pr w0 hG) hhW (by simp) hc (t5f (l.length + 64)) (oL l.length (nodesD l) (vsN l (l.length + 64) (l.length + 64))) (kidsO l (l.length + 64)) rfl (t5_ok (by decide)) (by simp [t5f]) (by simp [oL])
   ⟨rfl,rfl,fun p hp => (t5f_ok (N:=400000000) (by decide) p hp).1,oL_bd hl,by decide,by decide⟩ rfl (oL_bd hl) (kids_small hl _) (kids_oth hl) (N:=N)).weaken ?_
  rintro e f m ⟨rfl,rfl,rfl⟩
  exact .inl (.inr ⟨by simp,rfl,rfl,rfl⟩)
def fW (l : List Nd) : Hp:=mkHp 400000000 (oNest l (l.length + 64) (l.length + 64))
def vW (l : List Nd) : Value:=.slice (some ⟨2,0,none⟩) l.length (2 * (l.length + 64) - 0)
theorem vsN_zero (l : List Nd) (m : Nat) : vsN l m 0 = copies zeroN m:=by rw [vsN,fill_zero,copies_rows]
theorem rest5 : codeAt Tryz.f5 [1,1] = .seq (.seq (codeAt Tryz.f5 [0,0,1,1]) (.block 0 (.loop (codeAt Tryz.f5 [0,0,1,0,1,1])))) (codeAt Tryz.f5 [1,1,1]):=by kernel_rfl
theorem restN {l : List Nd} (hl : l.length < 16777216) (hs : ∀ nd ∈ l,nd.small) {pr : Prot} {w0 : World} (hG : Tab pr w0) :
  Tri Tryz.prog pr w0 3 (codeAt Tryz.f5 [1,1]) (mkFr 38 (t5f (l.length + 64))) (mkHp 3 (oL l.length (nodesD l) (copies zeroN (l.length + 64)))) fun e f m => e = .ret∧f = mkFr 38 [(2,vW l)]∧m = fW l:=by
 have hc2:=pL2_came l.length (l.length + 64) (nodesD l) (copies zeroN (l.length + 64))
 have hh2 : Here E1 5 [0,0,1,1] (codeAt Tryz.f5 [0,0,1,1]):=codeAt_here (fn:=Tryz.f5) (by kernel_rfl) (by kernel_rfl)
 have hh3 : Here E1 5 [1,1,1] (codeAt Tryz.f5 [1,1,1]):=codeAt_here (fn:=Tryz.f5) (by kernel_rfl) (by kernel_rfl)
 have hz : oNest l (l.length + 64) 0 = oL l.length (nodesD l) (copies zeroN (l.length + 64)):=by rw [oNest,vsN_zero];exact List.append_nil _
 have hcap : capOf (2 * (l.length + 64)) = l.length + 64:=by simp [capOf]
 have h2 : Tri Tryz.prog pr w0 3 (codeAt Tryz.f5 [0,0,1,1]) (mkFr 38 (t5f (l.length + 64))) (mkHp 3 (oL l.length (nodesD l) (copies zeroN (l.length + 64)))) fun e f m => e = .normal∧f = mkFr 38 (t5 (l.length + 64) 0)∧m = mkHp 400000000 (oNest l (l.length + 64) 0):=by
  rw [hz]
  refine tri_came_via hP1.hE hP1.ng hP1.mix (sm0_ok pr w0) noRun_ok hh2 hc2.of (fun n => n) (fun p hp => by rw [upV_id];revert p;simp [t5]) (fun p hp => by rw [upO_id];revert p;simp [oL]) (fun p _ q _ h => h) (by simp) rfl rfl (fun p hp => (t5_ok (N:=400000000) (by decide) p hp).1) (by rw [← hz];exact fun p hp => nest_bd hl p hp) (by decide) (fun _ _ => rfl) (by decide)
 have h3 : Tri Tryz.prog pr w0 3 (.block 0 (.loop (codeAt Tryz.f5 [0,0,1,0,1,1]))) (mkFr 38 (t5 (l.length + 64) 0)) (mkHp 400000000 (oNest l (l.length + 64) 0)) fun e f m => e = .normal∧f = mkFr 38 (t5f (l.length + 64))∧m = fW l :=
  tri_block (loopN hl hs hG (by decide)) (fun f m h => ⟨rfl,h.2⟩) (fun e f m hne h => absurd h.1 hne)
 have hc:=pL3_came l.length (l.length + 64) (nodesD l) (vsN l (l.length + 64) (l.length + 64)) (by omega) (by rw [hcap];omega) (by omega) (by rw [hcap];omega)
 have h4:=came_lift hP1 tab_stands hG (fun pr w0 _ => sm0_ok pr w0) hh3 (by simp) hc [(2,vW l)] (oL l.length (nodesD l) (vsN l (l.length + 64) (l.length + 64))) (kidsO l (l.length + 64)) rfl (t5f_ok (by decide)) (by simp [vW]) (by simp [oL])
   ⟨rfl,rfl,by simp [vW],oL_bd hl,by decide,by decide⟩ rfl (oL_bd hl) (kids_small hl _) (kids_oth hl) (N:=3)
 rw [rest5]
 exact tri_seq (tri_seq h2 h3) h4
noncomputable def q5N (l : List Nd) : Sm:=withL smM 5 [1,1] (piece 38 (t5f (l.length + 64)) (oL l.length (nodesD l) (copies zeroN (l.length + 64))) 3 .ret (mkFr 38 [(2,vW l)]) (fW l))
theorem run5N (l : List Nd) : runF Tryz.prog E1 (q5N l) noRun 100 5 [.chan (some 1)] (mkHp 2 [(0,.ro (nodesD l)),(1,.word l.length 0)]) [.skip 4,.mk (l.length + 64)] True = some (.returned (vW l),fW l,[],(True∧IntKind.wrap IntKind.i64 ((l.length : Int) + 64) = ((l.length + 64 : Nat) : Int)∧IntKind.wrap IntKind.i64 ((l.length : Int) + 64) = ((l.length + 64 : Nat) : Int)∧136 * (l.length + 64) ≤ 281474976710656∧l.length + 64 ≤ 9223372036854775807)∧SelfP 38 (t5f (l.length + 64)) (oL l.length (nodesD l) (copies zeroN (l.length + 64))) 3):=by kernel_rfl
theorem con5N {l : List Nd} (hl : l.length < 16777216) (hs : ∀ nd ∈ l,nd.small) : LocalG Tab Tryz.prog 5 [.chan (some 1)] (mkHp 2 [(0,.ro (nodesD l)),(1,.word l.length 0)]) (.returned (vW l)) (fW l):=by
 have hw : IntKind.i64.wrap ((l.length : Int) + 64) = ((l.length + 64 : Nat) : Int):=by
  rw [i64_small (by omega) (by omega)];omega
 refine localG_run hP1 (s:=q5N l) (fun pr w0 hG => withL_ok (smM_ok pr w0 hG) (fn:=Tryz.f5) (c:=codeAt Tryz.f5 [1,1]) (by kernel_rfl) (by kernel_rfl) ?_) (run5N l) ⟨⟨trivial,hw,hw,by omega,by omega⟩,selfP_true _ _ _ _⟩ (by simp [mkHp])
 refine piece_ok (by simp) rfl rfl (fun p hp => (t5f_ok (by decide) p hp).1) ?_ (by decide) (restN hl hs hG)
 intro p hp
 simp only [oL,List.mem_cons,List.not_mem_nil,or_false] at hp
 rcases hp with rfl | rfl | rfl
 ·exact ⟨by simp,trivial⟩
 ·exact ⟨by simp,by simp [BdO]⟩
 ·refine ⟨by simp,fun v hv => ?_⟩
  rw [copies_rows] at hv
  obtain ⟨j,_,hj⟩:=rows_mem hv
  rcases nodeV_mem hj with rfl | rfl | rfl | ⟨_,_,rfl⟩ <;> simp
end Go.Abs
end
section
namespace Go.Abs
open Go.Proofs
set_option maxRecDepth 100000
def pq13 (bs : List Int) (es : List Ent) (nm : ByteArray) (x : Nat → Int) (h : Int) : List Value → Hp → Option (Value × Prop):=fun args μ => match args with
 | [.agg ⟨[_,d,a,_,_,_,_,_,_,_,_,_,_,_,_,_]⟩] => bif Nat.ble (μ.next + 4) limit then pureW [d,a] (kn13 bs es nm x h) args μ else none
 | _ => none
structure Nd.ok (nd : Nd) : Prop where
 b : nd.nm.size + nd.bs.length + (aB nd.es).length ≤ 549755813888
 m : nd.es.length < 549755813888
 p : ∀ a ∈ nd.es,-128 ≤ a.1∧a.1 ≤ 127
 x : XOk nd.x
def Nd.val (nd : Nd) : Int:=fnvV (nodeRow nd.nm nd.bs nd.es nd.x)
theorem pq13_ok {pr : Prot} {w0 : World} (hG : Tab pr w0) {f : Nat} {bs : List Int} {es : List Ent} {nm : ByteArray} {x : Nat → Int} {h : Int} (hc : ConWG Tab Tryz.prog f (kn13 bs es nm x h)) : SumOk Tryz.prog pr w0 0 f (pureS (pq13 bs es nm x h)):=by
 intro args μ e μ' p hg hp
 unfold pureS pq13 at hg
 split at hg
 ·rename_i v q hq
  split at hq
  ·rename_i a0 d a _ _ _ _ _ _ _ _ _ _ _ _ _
   exact pureW_ok (c:=kn13 bs es nm x h) tab_stands hG hc (fun _ => rfl) (fun _ => rfl) (pure_int _ _) [d,a] _ μ e μ' p (by
    unfold pureS
    simp only [show 2 * (kn13 bs es nm x h).ws.length = 4 from rfl,hq]
    exact hg) hp
  ·cases hq
 ·cases hg
end Go.Abs
end
section
namespace Go.Abs
open Go.Proofs
set_option maxRecDepth 100000
def t4 (N k : Nat) : List (Nat × Value):=[(0,.chan (some 1)),(3,.int .i64 N),(4,.int .i64 k)]
def t4b (X : Int) (k j : Nat) : List (Nat × Value):=[(0,.chan (some 1)),(3,.int .i64 X),(4,.int .i64 k),(5,.int .i64 j)]
def o4 (n : Nat) (ds : List Deep) : List (Nat × AObj):=[(0,.ro ds),(1,.word n 0)]
def o4n (n k : Nat) (ds : List Deep) (bs : List Int) (es : List Ent) (nm : ByteArray) (x : Nat → Int) : List (Nat × AObj):=[(0,.rok ds (0 + Int.toNat (k : Int) * 16) (nodeV nm (.chan (some 3)) (.chan (some 5)) x)),(1,.word n 0),(2,.rov (bv bs)),(3,.word bs.length 2),(4,.rov (av es)),(5,.word es.length 4)]
theorem w4a_came (n : Nat) (N : Nat) (k : Nat) (j : Nat) (ds : List Deep) (bs : List Int) (es : List Ent) (nm : ByteArray) (s : ByteArray) (d : ByteArray) (x : Nat → Int) (h0 : 0 ≤ (↑k : Int)∧(↑k : Int) < (↑n : Int)) (h1 : 3 ≤ 16) (h2 : decide ((↑j : Int) < (↑(List.length es) : Int)) = true) (h3 : decide ((↑N : Int) < 16777216) = true) (h4 : 0 ≤ (↑j : Int)∧(↑j : Int) < (↑(List.length es) : Int)) (h5 : (av es)[0 + Int.toNat (↑j : Int) * 3 + 1]? = some (Value.string s)) (h6 : (av es)[0 + Int.toNat (↑j : Int) * 3 + 1 + 1]? = some (Value.string d)) :
  Ran (codeO Tryz.prog E1 (sm0) noRun 100 4 [0,0,1,1,0,0,1,0,0,1,0,1,1] (codeAt Tryz.f4 [0,0,1,1,0,0,1,0,0,1,0,1,1]) (mkFr 82 (t4b (↑N : Int) k j)) (mkHp 6 (o4n n k ds bs es nm x)) [.skip 3,.sym,.skip 1,.kn 2,.skip 3,.b true,.skip 1,.b true,.skip 1,.b true,.b true,.skip 3,.sym,.skip 1,.kn 2,.skip 1,.sym,.skip 2,.v (Value.string s),.skip 4,.sym,.skip 1,.kn 2,.skip 1,.sym,.skip 2,.v (Value.string d)] True) (Exit.normal) 82 [(0,Value.chan (some 1)),(3,Value.int .i64 (IntKind.wrap .i64 (IntKind.wrap .i64 ((↑N : Int) + (↑(ByteArray.size s) : Int)) + (↑(ByteArray.size d) : Int)))),(4,Value.int .i64 (↑k : Int)),(5,Value.int .i64 (IntKind.wrap .i64 ((↑j : Int) + 1)))] [(0,AObj.rok ds (0 + Int.toNat (↑k : Int) * 16) [Value.string nm,Value.chan (some 3),Value.chan (some 5),Value.int .u32 (x 0),Value.int .u32 (x 1),Value.int .u32 (x 2),Value.int .u32 (x 3),Value.int .u32 (x 4),Value.int .u32 (x 5),Value.int .i32 (x 6),Value.int .i32 (x 7),Value.int .i32 (x 8),Value.int .i64 (x 9),Value.int .i64 (x 10),Value.int .i64 (x 11),Value.int .i32 (x 12)]),(1,AObj.word n 0),(2,AObj.rov (bv bs)),(3,AObj.word (List.length bs) 2),(4,AObj.rov (av es)),(5,AObj.word (List.length es) 4)] 6 :=
 cameF_of (O:=((((((((((((((True∧0 ≤ (↑k : Int)∧(↑k : Int) < (↑n : Int))∧0 + Int.toNat (↑k : Int) * 16 + 2 = 0 + Int.toNat (↑k : Int) * 16 + 2∧3 ≤ 16)∧(decide ((↑j : Int) < (↑(List.length es) : Int)) == true) = true)∧(decide ((↑j : Int) < (↑(List.length es) : Int)) == true) = true)∧decide ((↑j : Int) < (↑(List.length es) : Int)) = true)∧decide ((↑N : Int) < 16777216) = true)∧0 ≤ (↑k : Int)∧(↑k : Int) < (↑n : Int))∧0 + Int.toNat (↑k : Int) * 16 + 2 = 0 + Int.toNat (↑k : Int) * 16 + 2∧3 ≤ 16)∧0 ≤ (↑j : Int)∧(↑j : Int) < (↑(List.length es) : Int))∧(av es)[0 + Int.toNat (↑j : Int) * 3 + 1]? = some (Value.string s))∧0 ≤ (↑k : Int)∧(↑k : Int) < (↑n : Int))∧0 + Int.toNat (↑k : Int) * 16 + 2 = 0 + Int.toNat (↑k : Int) * 16 + 2∧3 ≤ 16)∧0 ≤ (↑j : Int)∧(↑j : Int) < (↑(List.length es) : Int))∧(av es)[0 + Int.toNat (↑j : Int) * 3 + 1 + 1]? = some (Value.string d))∧True∧True∧True∧True∧True∧True∧True∧True∧True∧True∧True∧True∧True∧True∧True∧True∧True∧True∧True∧True∧True∧True∧True∧True∧True∧True∧True) (by kernel_rfl) ⟨⟨⟨⟨⟨⟨⟨⟨⟨⟨⟨⟨⟨⟨⟨trivial,h0⟩,⟨rfl,h1⟩⟩,gd h2 rfl⟩,gd h2 rfl⟩,h2⟩,h3⟩,h0⟩,⟨rfl,h1⟩⟩,h4⟩,h5⟩,h0⟩,⟨rfl,h1⟩⟩,h4⟩,h6⟩,⟨trivial,⟨trivial,⟨trivial,⟨trivial,⟨trivial,⟨trivial,⟨trivial,⟨trivial,⟨trivial,⟨trivial,⟨trivial,⟨trivial,⟨trivial,⟨trivial,⟨trivial,⟨trivial,⟨trivial,⟨trivial,⟨trivial,⟨trivial,⟨trivial,⟨trivial,⟨trivial,⟨trivial,⟨trivial,⟨trivial,trivial⟩⟩⟩⟩⟩⟩⟩⟩⟩⟩⟩⟩⟩⟩⟩⟩⟩⟩⟩⟩⟩⟩⟩⟩⟩⟩⟩
theorem w4b_came (n : Nat) (N : Nat) (k : Nat) (j : Nat) (ds : List Deep) (bs : List Int) (es : List Ent) (nm : ByteArray) (x : Nat → Int) (h0 : 0 ≤ (↑k : Int)∧(↑k : Int) < (↑n : Int)) (h1 : 3 ≤ 16) (h2 : decide ((↑j : Int) < (↑(List.length es) : Int)) = false) :
  Ran (codeO Tryz.prog E1 (sm0) noRun 100 4 [0,0,1,1,0,0,1,0,0,1,0,1,1] (codeAt Tryz.f4 [0,0,1,1,0,0,1,0,0,1,0,1,1]) (mkFr 82 (t4b (↑N : Int) k j)) (mkHp 6 (o4n n k ds bs es nm x)) [.skip 3,.sym,.skip 1,.kn 2,.skip 3,.b false,.b false,.b false] True) (Exit.exit 2) 82 [(0,Value.chan (some 1)),(3,Value.int .i64 (↑N : Int)),(4,Value.int .i64 (↑k : Int)),(5,Value.int .i64 (↑j : Int))] [(0,AObj.rok ds (0 + Int.toNat (↑k : Int) * 16) [Value.string nm,Value.chan (some 3),Value.chan (some 5),Value.int .u32 (x 0),Value.int .u32 (x 1),Value.int .u32 (x 2),Value.int .u32 (x 3),Value.int .u32 (x 4),Value.int .u32 (x 5),Value.int .i32 (x 6),Value.int .i32 (x 7),Value.int .i32 (x 8),Value.int .i64 (x 9),Value.int .i64 (x 10),Value.int .i64 (x 11),Value.int .i32 (x 12)]),(1,AObj.word n 0),(2,AObj.rov (bv bs)),(3,AObj.word (List.length bs) 2),(4,AObj.rov (av es)),(5,AObj.word (List.length es) 4)] 6 :=
 cameF_of (O:=(((((True∧0 ≤ (↑k : Int)∧(↑k : Int) < (↑n : Int))∧0 + Int.toNat (↑k : Int) * 16 + 2 = 0 + Int.toNat (↑k : Int) * 16 + 2∧3 ≤ 16)∧(decide ((↑j : Int) < (↑(List.length es) : Int)) == true) = false)∧(decide ((↑j : Int) < (↑(List.length es) : Int)) == true) = false)∧decide ((↑j : Int) < (↑(List.length es) : Int)) = false)) (by kernel_rfl) ⟨⟨⟨⟨⟨trivial,h0⟩,⟨rfl,h1⟩⟩,gd h2 rfl⟩,gd h2 rfl⟩,h2⟩
theorem w4c_came (n : Nat) (N : Nat) (k : Nat) (j : Nat) (ds : List Deep) (bs : List Int) (es : List Ent) (nm : ByteArray) (x : Nat → Int) (h0 : 0 ≤ (↑k : Int)∧(↑k : Int) < (↑n : Int)) (h1 : 3 ≤ 16) (h2 : decide ((↑j : Int) < (↑(List.length es) : Int)) = true) (h3 : decide ((↑N : Int) < 16777216) = false) :
  Ran (codeO Tryz.prog E1 (sm0) noRun 100 4 [0,0,1,1,0,0,1,0,0,1,0,1,1] (codeAt Tryz.f4 [0,0,1,1,0,0,1,0,0,1,0,1,1]) (mkFr 82 (t4b (↑N : Int) k j)) (mkHp 6 (o4n n k ds bs es nm x)) [.skip 3,.sym,.skip 1,.kn 2,.skip 3,.b true,.skip 1,.b true,.skip 1,.b true,.b false] True) (Exit.exit 2) 82 [(0,Value.chan (some 1)),(3,Value.int .i64 (↑N : Int)),(4,Value.int .i64 (↑k : Int)),(5,Value.int .i64 (↑j : Int))] [(0,AObj.rok ds (0 + Int.toNat (↑k : Int) * 16) [Value.string nm,Value.chan (some 3),Value.chan (some 5),Value.int .u32 (x 0),Value.int .u32 (x 1),Value.int .u32 (x 2),Value.int .u32 (x 3),Value.int .u32 (x 4),Value.int .u32 (x 5),Value.int .i32 (x 6),Value.int .i32 (x 7),Value.int .i32 (x 8),Value.int .i64 (x 9),Value.int .i64 (x 10),Value.int .i64 (x 11),Value.int .i32 (x 12)]),(1,AObj.word n 0),(2,AObj.rov (bv bs)),(3,AObj.word (List.length bs) 2),(4,AObj.rov (av es)),(5,AObj.word (List.length es) 4)] 6 :=
 cameF_of (O:=((((((True∧0 ≤ (↑k : Int)∧(↑k : Int) < (↑n : Int))∧0 + Int.toNat (↑k : Int) * 16 + 2 = 0 + Int.toNat (↑k : Int) * 16 + 2∧3 ≤ 16)∧(decide ((↑j : Int) < (↑(List.length es) : Int)) == true) = true)∧(decide ((↑j : Int) < (↑(List.length es) : Int)) == true) = true)∧decide ((↑j : Int) < (↑(List.length es) : Int)) = true)∧decide ((↑N : Int) < 16777216) = false)) (by kernel_rfl) ⟨⟨⟨⟨⟨⟨trivial,h0⟩,⟨rfl,h1⟩⟩,gd h2 rfl⟩,gd h2 rfl⟩,h2⟩,h3⟩
def N1 (N : Nat) (nm : ByteArray) (bs : List Int) (es : List Ent) : Int:=IntKind.wrap .i64 (IntKind.wrap .i64 (IntKind.wrap .i64 ((N : Int) + (nm.size : Int)) + (bs.length : Int)) + IntKind.wrap .i64 (8 * (es.length : Int)))
noncomputable def s4 (n N M k : Nat) (ds : List Deep) (bs : List Int) (es : List Ent) (nm : ByteArray) (x : Nat → Int) : Sm:=withL sm0 4 [1,1,0,0,1,0,0,1,0,1,1] (piece 82 (t4b (N1 N nm bs es) k 0) (o4n n k ds bs es nm x) 6 .normal (mkFr 82 (t4 M k)) (mkHp 6 (o4n n k ds bs es nm x)))
theorem w4d_came (n : Nat) (N : Nat) (M : Nat) (k : Nat) (ds : List Deep) (bs : List Int) (es : List Ent) (nm : ByteArray) (x : Nat → Int) (h0 : decide ((↑k : Int) < (↑n : Int)) = true) (h1 : decide ((↑N : Int) < 16777216) = true) (h2 : List.take 16 (List.drop (0 + Int.toNat (↑k : Int) * 16) ds) = nodeD nm bs es x) (h3 : 0 ≤ (↑k : Int)∧(↑k : Int) < (↑n : Int)) (h4 : 0 + Int.toNat (↑k : Int) * 16 = 0 + Int.toNat (↑k : Int) * 16 + 0∧1 ≤ 16) (h5 : 2 ≤ 16) (h6 : 3 ≤ 16) :
  Ran (codeO Tryz.prog E1 (s4 n N M k ds bs es nm x) noRun 100 4 [0,0,1,0,1,1] (codeAt Tryz.f4 [0,0,1,0,1,1]) (mkFr 82 (t4 N k)) (mkHp 2 (o4 n ds)) [.skip 5,.b true,.skip 1,.b true,.skip 1,.b true,.b true,.nm 0 (0 + Int.toNat (↑k : Int) * 16) (nodeD nm bs es x),.dp [],.skip 3,.sym,.skip 1,.kn 0,.skip 4,.sym,.skip 1,.kn 1,.skip 4,.sym,.skip 1,.kn 2,.skip 5,.frz 0] True) (Exit.normal) 82 [(0,Value.chan (some 1)),(3,Value.int .i64 (↑M : Int)),(4,Value.int .i64 (IntKind.wrap .i64 ((↑k : Int) + 1)))] [(0,AObj.ro ds),(1,AObj.word n 0),(2,AObj.rov (bv bs)),(3,AObj.word (List.length bs) 2),(4,AObj.rov (av es)),(5,AObj.word (List.length es) 4)] 6 :=
 cameF_of (O:=(((((((((((True∧(decide ((↑k : Int) < (↑n : Int)) == true) = true)∧(decide ((↑k : Int) < (↑n : Int)) == true) = true)∧decide ((↑k : Int) < (↑n : Int)) = true)∧decide ((↑N : Int) < 16777216) = true)∧List.take 16 (List.drop (0 + Int.toNat (↑k : Int) * 16) ds) = nodeD nm bs es x)∧0 ≤ (↑k : Int)∧(↑k : Int) < (↑n : Int))∧0 + Int.toNat (↑k : Int) * 16 = 0 + Int.toNat (↑k : Int) * 16 + 0∧1 ≤ 16)∧0 ≤ (↑k : Int)∧(↑k : Int) < (↑n : Int))∧0 + Int.toNat (↑k : Int) * 16 + 1 = 0 + Int.toNat (↑k : Int) * 16 + 1∧2 ≤ 16)∧0 ≤ (↑k : Int)∧(↑k : Int) < (↑n : Int))∧0 + Int.toNat (↑k : Int) * 16 + 2 = 0 + Int.toNat (↑k : Int) * 16 + 2∧3 ≤ 16)∧SelfP 82 (t4b (N1 N nm bs es) k 0) (o4n n k ds bs es nm x) 6) (by kernel_rfl) ⟨⟨⟨⟨⟨⟨⟨⟨⟨⟨⟨⟨trivial,gd h0 rfl⟩,gd h0 rfl⟩,h0⟩,h1⟩,h2⟩,h3⟩,h4⟩,h3⟩,⟨rfl,h5⟩⟩,h3⟩,⟨rfl,h6⟩⟩,selfP_true _ _ _ _⟩
theorem w4e_came (n : Nat) (N : Nat) (k : Nat) (ds : List Deep) (h0 : decide ((↑k : Int) < (↑n : Int)) = false) :
  Ran (codeO Tryz.prog E1 (sm0) noRun 100 4 [0,0,1,0,1,1] (codeAt Tryz.f4 [0,0,1,0,1,1]) (mkFr 82 (t4 N k)) (mkHp 2 (o4 n ds)) [.skip 5,.b false,.b false,.b false] True) (Exit.exit 0) 82 [(0,Value.chan (some 1)),(3,Value.int .i64 (↑N : Int)),(4,Value.int .i64 (↑k : Int))] [(0,AObj.ro ds),(1,AObj.word n 0)] 2 :=
 cameF_of (O:=(((True∧(decide ((↑k : Int) < (↑n : Int)) == true) = false)∧(decide ((↑k : Int) < (↑n : Int)) == true) = false)∧decide ((↑k : Int) < (↑n : Int)) = false)) (by kernel_rfl) ⟨⟨⟨trivial,gd h0 rfl⟩,gd h0 rfl⟩,h0⟩
theorem w4f_came (n : Nat) (N : Nat) (k : Nat) (ds : List Deep) (h0 : decide ((↑k : Int) < (↑n : Int)) = true) (h1 : decide ((↑N : Int) < 16777216) = false) :
  Ran (codeO Tryz.prog E1 (sm0) noRun 100 4 [0,0,1,0,1,1] (codeAt Tryz.f4 [0,0,1,0,1,1]) (mkFr 82 (t4 N k)) (mkHp 2 (o4 n ds)) [.skip 5,.b true,.skip 1,.b true,.skip 1,.b true,.b false] True) (Exit.exit 0) 82 [(0,Value.chan (some 1)),(3,Value.int .i64 (↑N : Int)),(4,Value.int .i64 (↑k : Int))] [(0,AObj.ro ds),(1,AObj.word n 0)] 2 :=
 cameF_of (O:=((((True∧(decide ((↑k : Int) < (↑n : Int)) == true) = true)∧(decide ((↑k : Int) < (↑n : Int)) == true) = true)∧decide ((↑k : Int) < (↑n : Int)) = true)∧decide ((↑N : Int) < 16777216) = false)) (by kernel_rfl) ⟨⟨⟨⟨trivial,gd h0 rfl⟩,gd h0 rfl⟩,h0⟩,h1⟩
noncomputable def q4 (n M : Nat) (ds : List Deep) : Sm:=withL sm0 4 [1,0,1,1] (piece 82 (t4 n 0) (o4 n ds) 2 .normal (mkFr 82 [(3,.int .i64 M)]) (mkHp 2 (o4 n ds)))
theorem c4_came (n : Nat) (M : Nat) (ds : List Deep)  :
  RanC (runO Tryz.prog E1 (q4 n M ds) noRun 100 4 [Value.chan (some 1)] (mkHp 2 (wordsOs [Wd.d ds n] 0 fun n => n)) [] True) (.returned (Value.bool (decide ((↑M : Int) ≥ 16777216)))) [(0,AObj.ro ds),(1,AObj.word n 0)] 2 :=
 cameCF_of (O:=(True∧SelfP 82 (t4 n 0) (o4 n ds) 2)) (by kernel_rfl) ⟨trivial,selfP_true _ _ _ _⟩
def inW : Nat → List Ent → Nat
 | N,[] => N
 | N,e :: r => if N < 16777216 then inW (N + e.2.1.size + e.2.2.size) r else N
def Nd.w0 (nd : Nd) : Nat:=nd.nm.size + nd.bs.length + 8 * nd.es.length
def outW : Nat → List Nd → Nat
 | N,[] => N
 | N,nd :: r => if N < 16777216 then outW (inW (N + nd.w0) nd.es) r else N
def wideB (l : List Nd) : Bool:=decide (16777216 ≤ outW l.length l)
structure Nd.big (nd : Nd) : Prop where
 nm : nd.nm.size ≤ 1125899906842624
 bs : nd.bs.length ≤ 1125899906842624
 es : nd.es.length ≤ 1125899906842624
 e : ∀ a ∈ nd.es,a.2.1.size ≤ 1125899906842624∧a.2.2.size ≤ 1125899906842624
theorem inW_le : ∀ (es : List Ent) (N : Nat),(∀ a ∈ es,a.2.1.size ≤ 1125899906842624∧a.2.2.size ≤ 1125899906842624) → N ≤ 18014398509481984 → inW N es ≤ 18014398509481984
 | [],N,_,h => h
 | e :: r,N,ha,h => by
  unfold inW
  split
  ·have:=ha e (List.mem_cons_self ..)
   exact inW_le r _ (fun a h => ha a (List.mem_cons_of_mem _ h)) (by omega)
  ·exact h
theorem inW_all (es : List Ent) : ∀ (N : Nat),(inW N es < 16777216) → inW N es = N + (es.map fun a => a.2.1.size + a.2.2.size).sum:=by
 induction es with
 | nil => intro N _;simp [inW]
 | cons e r ih =>
  intro N h
  unfold inW at h ⊢
  split at h
  ·rename_i hN
   rw [if_pos hN,ih _ h]
   simp
   omega
  ·omega
theorem inW_drop (es : List Ent) (N j : Nat) (hj : j < es.length) (hN : N < 16777216) : inW N (es.drop j) = inW (N + es[j].2.1.size + es[j].2.2.size) (es.drop (j + 1)):=by
 rw [List.drop_eq_getElem_cons hj,inW,if_pos hN]
theorem outW_drop (l : List Nd) (N j : Nat) (hj : j < l.length) (hN : N < 16777216) : outW N (l.drop j) = outW (inW (N + l[j].w0) l[j].es) (l.drop (j + 1)):=by
 rw [List.drop_eq_getElem_cons hj,outW,if_pos hN]
theorem inW_stop {es : List Ent} {N : Nat} (h : es = [] ∨ ¬ N < 16777216) : inW N es = N:=by
 rcases h with rfl | h
 ·rfl
 ·cases es with
  | nil => rfl
  | cons a r => rw [inW,if_neg h]
theorem outW_stop {l : List Nd} {N : Nat} (h : l = [] ∨ ¬ N < 16777216) : outW N l = N:=by
 rcases h with rfl | h
 ·rfl
 ·cases l with
  | nil => rfl
  | cons a r => rw [outW,if_neg h]
theorem av_str1 {es : List Ent} {j : Nat} (h : j < es.length) : (av es)[0 + Int.toNat (j : Int) * 3 + 1]? = some (.string es[j].2.1):=by
 rw [Nat.zero_add,Int.toNat_natCast,av,rows_get (s:=3) (fun _ _ => rfl) h (by omega),List.getD_eq_getElem?_getD,List.getElem?_eq_getElem h];rfl
theorem av_str2 {es : List Ent} {j : Nat} (h : j < es.length) : (av es)[0 + Int.toNat (j : Int) * 3 + 1 + 1]? = some (.string es[j].2.2):=by
 rw [Nat.zero_add,Int.toNat_natCast,Nat.add_assoc,av,rows_get (s:=3) (fun _ _ => rfl) h (by omega),List.getD_eq_getElem?_getD,List.getElem?_eq_getElem h];rfl
theorem o4n_bd (n k : Nat) (ds : List Deep) (bs : List Int) (es : List Ent) (nm : ByteArray) (x : Nat → Int) : ∀ p ∈ o4n n k ds bs es nm x,p.1 < 6∧BdO 6 p.2:=by
 intro p hp
 simp only [o4n,List.mem_cons,List.not_mem_nil,or_false] at hp
 rcases hp with rfl | rfl | rfl | rfl | rfl | rfl <;> simp [BdO,nodeV]
theorem inner4 {pr : Prot} {w0 : World} (n k N : Nat) (ds : List Deep) (bs : List Int) (es : List Ent) (nm : ByteArray) (x : Nat → Int) (hkn : k < n) (he : ∀ a ∈ es,a.2.1.size ≤ 1125899906842624∧a.2.2.size ≤ 1125899906842624) (hel : es.length ≤ 1125899906842624) (hN : N ≤ 18014398509481984) :
  Tri Tryz.prog pr w0 6 (.loop (codeAt Tryz.f4 [0,0,1,1,0,0,1,0,0,1,0,1,1])) (mkFr 82 (t4b N k 0)) (mkHp 6 (o4n n k ds bs es nm x)) fun e f μ => e = .exit 2∧f = mkFr 82 (t4 (inW N es) k)∧μ = mkHp 6 (o4n n k ds bs es nm x):=by
 have hF : ∀ ts,(∀ p ∈ ts,Bd 6 p.2) → smallN ts = true → Fits 6 ts (o4n n k ds bs es nm x) 6:=fun ts h1 h2 => ⟨h2,rfl,h1,o4n_bd _ _ _ _ _ _ _,by decide,by decide⟩
 have hh : Here E1 4 [0,0,1,1,0,0,1,0,0,1,0,1,1] (codeAt Tryz.f4 [0,0,1,1,0,0,1,0,0,1,0,1,1]):=codeAt_here (fn:=Tryz.f4) (by kernel_rfl) (by kernel_rfl)
 have key:=rounds_tri (P:=Tryz.prog) (pr:=pr) (w0:=w0) (N:=6) (c:=codeAt Tryz.f4 [0,0,1,1,0,0,1,0,0,1,0,1,1]) (Ψ:=fun e f μ => e = .exit 2∧f = mkFr 82 (t4 (inW N es) k)∧μ = mkHp 6 (o4n n k ds bs es nm x)) (T:={ p : Nat × Nat // p.1 ≤ es.length∧p.2 ≤ 18014398509481984∧inW p.2 (es.drop p.1) = inW N es }) ⟨82,fun t => t4b t.1.2 k t.1.1,fun _ => o4n n k ds bs es nm x,fun _ => 6,fun t => es.length - t.1.1⟩ ?_ ⟨(0,N),Nat.zero_le _,hN,rfl⟩
 ·exact key
 rintro ⟨⟨j,M⟩,hj,hM,hinv⟩
 simp only at hj hM hinv
 have hkk : 0 ≤ (k : Int)∧(k : Int) < (n : Int):=by omega
 by_cases hlt : j < es.length
 ·by_cases hMl : M < 16777216
  ·have hb:=he es[j] (List.getElem_mem hlt)
   have hc:=w4a_came n M k j ds bs es nm es[j].2.1 es[j].2.2 x hkk (by decide) (by simp;omega) (by simp;omega) (by omega) (av_str1 hlt) (av_str2 hlt)
   have h1 : IntKind.wrap .i64 (IntKind.wrap .i64 ((M : Int) + (es[j].2.1.size : Int)) + (es[j].2.2.size : Int)) = ((M + es[j].2.1.size + es[j].2.2.size : Nat) : Int):=by
    rw [i64_small (n:=(M : Int) + _) (by omega) (by omega),i64_small (by omega) (by omega)];omega
   rw [i64_succ (by omega),h1] at hc
   exact on_came hP1 (sm0_ok pr w0) hh hc ⟨(j + 1,M + es[j].2.1.size + es[j].2.2.size),hlt,by simp only;omega,by simp only;rw [← hinv,inW_drop es M j hlt hMl]⟩ rfl rfl rfl (by simp only;omega) (hF _ (by simp [t4b]) rfl)
  ·have hc:=cut_came (w4c_came n M k j ds bs es nm x hkk (by decide) (by simp;omega) (by simp;omega)) (ts':=t4 M k) (by simp [t4])
   refine out_came hP1 (sm0_ok pr w0) hh hc (by simp) (by simp) (hF _ (by simp [t4]) rfl) ⟨rfl,?_,rfl⟩
   rw [← hinv,inW_stop (.inr hMl)]
 ·have hc:=cut_came (w4b_came n M k j ds bs es nm x hkk (by decide) (by simp;omega)) (ts':=t4 M k) (by simp [t4])
  refine out_came hP1 (sm0_ok pr w0) hh hc (by simp) (by simp) (hF _ (by simp [t4]) rfl) ⟨rfl,?_,rfl⟩
  rw [← hinv,inW_stop (.inl (List.drop_eq_nil_of_le (by omega)))]
def K4 (l : List Nd) : ConW:=⟨fun X => [X 0],[.d (nodesD l) l.length],fun _ => .bool (wideB l),fun _ => []⟩
theorem con4 {l : List Nd} (hl : l.length ≤ 1125899906842624) (hs : ∀ nd ∈ l,nd.big) : ConWG Tab Tryz.prog 4 (K4 l):=by
 have hF : ∀ ts,(∀ p ∈ ts,Bd 2 p.2) → smallN ts = true → Fits 2 ts (o4 l.length (nodesD l)) 2:=fun ts h1 h2 => ⟨h2,rfl,h1,by simp [o4,BdO],by decide,by decide⟩
 have hdec : decide ((outW l.length l : Int) ≥ 16777216) = wideB l:=by
  unfold wideB
  by_cases h : 16777216 ≤ outW l.length l
  ·rw [decide_eq_true h];exact decide_eq_true (by omega)
  ·rw [decide_eq_false h];exact decide_eq_false (by omega)
 have hc4:=c4_came l.length (outW l.length l) (nodesD l)
 rw [hdec] at hc4
 refine conW_read hP1 (s:=q4 l.length (outW l.length l) (nodesD l)) (fun pr w0 hG => withL_ok (sm0_ok pr w0) (fn:=Tryz.f4) (c:=.block 0 (.loop (codeAt Tryz.f4 [0,0,1,0,1,1]))) (by kernel_rfl) (by kernel_rfl) (block_end (hF _ (by simp [t4]) rfl) ?_)) hc4 (by simp [limit]) (hF _ (by simp) rfl) (by simp) (pure_bool _) (by intro ι ι' f g h;simp [h 0 (by simp)]) (by intro σ;simp [upV])
 have hh : Here E1 4 [0,0,1,0,1,1] (codeAt Tryz.f4 [0,0,1,0,1,1]):=codeAt_here (fn:=Tryz.f4) (by kernel_rfl) (by kernel_rfl)
 refine rounds_tri (T:={ p : Nat × Nat // p.1 ≤ l.length∧p.2 ≤ 18014398509481984∧outW p.2 (l.drop p.1) = outW l.length l }) ⟨82,fun t => t4 t.1.2 t.1.1,fun _ => o4 l.length (nodesD l),fun _ => 2,fun t => l.length - t.1.1⟩ ?_ ⟨(0,l.length),Nat.zero_le _,by simp only;omega,rfl⟩
 rintro ⟨⟨k,N⟩,hk,hN,hinv⟩
 simp only at hk hN hinv
 by_cases hlt : k < l.length
 ·by_cases hNl : N < 16777216
  ·have hb:=hs l[k] (List.getElem_mem hlt)
   have h1:=hb.nm
   have h2:=hb.bs
   have h3:=hb.es
   have hN1 : N1 N l[k].nm l[k].bs l[k].es = ((N + l[k].w0 : Nat) : Int):=by
    unfold N1 Nd.w0
    rw [i64_small (n:=(N : Int) + _) (by omega) (by omega),i64_small (n:=(N : Int) + _ + _) (by omega) (by omega),i64_small (n:=8 * _) (by omega) (by omega),i64_small (by omega) (by omega)]
    omega
   have hw0 : N + l[k].w0 ≤ 18014398509481984:=by unfold Nd.w0;omega
   have hle:=inW_le l[k].es (N + l[k].w0) hb.e hw0
   have hc:=w4d_came l.length N (inW (N + l[k].w0) l[k].es) k (nodesD l) l[k].bs l[k].es l[k].nm l[k].x (by simp;omega) (by simp;omega) (nodesD_get hlt) (by omega) ⟨rfl,by decide⟩ (by decide) (by decide)
   rw [i64_succ (by omega)] at hc
   refine on_keep hP1 (withL_ok (sm0_ok pr w0) (fn:=Tryz.f4) (c:=.block 2 (.loop (codeAt Tryz.f4 [0,0,1,1,0,0,1,0,0,1,0,1,1]))) (by kernel_rfl) (by kernel_rfl) (block_end ⟨rfl,rfl,by simp [t4b],o4n_bd _ _ _ _ _ _ _,by decide,by decide⟩ ?_)) hh hc ⟨(k + 1,inW (N + l[k].w0) l[k].es),hlt,hle,by simp only;rw [← hinv,outW_drop l N k hlt hNl]⟩ (by simp [t4]) (by simp [o4]) (by simp only;omega) (hF _ (by simp [t4]) rfl)
   rw [hN1]
   exact inner4 l.length k (N + l[k].w0) (nodesD l) l[k].bs l[k].es l[k].nm l[k].x hlt hb.e h3 hw0
  ·have hc:=cut_came (w4f_came l.length N k (nodesD l) (by simp;omega) (by simp;omega)) (ts':=[(3,.int .i64 N)]) (by simp)
   refine out_came hP1 (sm0_ok pr w0) hh hc (by simp) (by simp) (hF _ (by simp) rfl) ⟨rfl,?_,rfl⟩
   rw [← hinv,outW_stop (.inr hNl)]
 ·have hc:=cut_came (w4e_came l.length N k (nodesD l) (by simp;omega)) (ts':=[(3,.int .i64 N)]) (by simp)
  refine out_came hP1 (sm0_ok pr w0) hh hc (by simp) (by simp) (hF _ (by simp) rfl) ⟨rfl,?_,rfl⟩
  rw [← hinv,outW_stop (.inl (List.drop_eq_nil_of_le (by omega)))]
end Go.Abs
end
section
namespace Go.Abs
open Go.Proofs
set_option maxRecDepth 100000
def entsOf : List Value → Option (List Ent)
 | [] => some []
 | .int .i8 p :: .string s :: .string d :: r => (entsOf r).map fun l => (p,s,d) :: l
 | _ => none
theorem av_flat (es : List Ent) : av es = es.flatMap cellA:=by
 have key : ∀ (es : List Ent) (n : Nat),n ≤ es.length → rows (fun j => cellA (es.getD j (0,⟨#[]⟩,⟨#[]⟩))) n = (es.take n).flatMap cellA:=by
  intro es n
  induction n with
  | zero => intro _;simp [rows]
  | succ n ih =>
   intro h
   rw [rows_succ,ih (by omega),List.take_add_one,List.getElem?_eq_getElem (by omega),List.flatMap_append,List.getD_eq_getElem?_getD,List.getElem?_eq_getElem (by omega)]
   simp
 rw [av,key es es.length (Nat.le_refl _),List.take_length]
theorem entsOf_ok : ∀ {vs : List Value} {es : List Ent},entsOf vs = some es → av es = vs
 | [],es,h => by simp [entsOf] at h;subst h;rfl
 | .int .i8 p :: .string s :: .string d :: r,es,h => by
  simp only [entsOf,Option.map_eq_some_iff] at h
  obtain ⟨l,hl,rfl⟩:=h
  have:=entsOf_ok hl
  rw [av_flat] at this ⊢
  simp [cellA,this]
 | .int .i8 p :: .string s :: [],es,h => by simp [entsOf] at h
 | .int .i8 p :: [],es,h => by simp [entsOf] at h
 | v :: r,es,h => by
  unfold entsOf at h
  split at h
  ·simp_all
  ·simp only [Option.map_eq_some_iff] at h
   obtain ⟨l,hl,rfl⟩:=h
   have:=entsOf_ok hl
   rw [av_flat] at this ⊢
   simp_all [cellA]
  ·cases h
def cellsAt (μ : Hp) (s : Nat) : Value → Option (List Value × Nat)
 | .slice none 0 0 => some ([],0)
 | .slice (some a) l _ => match a.spot,μ.cells a.block with
  | none,some vs => bif Nat.beq ((vs.drop a.off).take (l * s)).length (l * s) then some ((vs.drop a.off).take (l * s),l) else none
  | _,_ => none
 | _ => none
theorem cellsAt_ok {pr : Prot} {w0 w : World} {ng s : Nat} {ι : Ren} {μ : Hp} (hS : Sim pr w0 ng ι μ w) {x : Value} {vs : List Value} {n : Nat} (h : cellsAt μ s x = some (vs,n)) (hp : vs.all atom = true) :
  wordF { loc:=fun _ => (0,0),ext:=fun _ => 0,fz:=fun b => b < w.heap.size,wb:=w } (conc ι x) (.v vs n)∧vs.length = n * s:=by
 unfold cellsAt at h
 split at h
 ·cases h
  exact ⟨⟨none,0,by simp [Wd.len],(0,0),.inl rfl,fun i u hu => by simp at hu⟩,by simp⟩
 ·rename_i a l c
  split at h
  ·rename_i us hsp hc
   cases hb : Nat.beq ((us.drop a.off).take (l * s)).length (l * s) with
   | false => rw [hb] at h;cases h
   | true =>
    rw [hb,cond_true] at h
    cases h
    obtain ⟨ab,ao,asp⟩:=a
    simp only at hsp hc hb hp ⊢
    subst hsp
    refine ⟨⟨_,_,conc_slice ι _ _ _,((ι.loc ab).1,(ι.loc ab).2 + ao),.inr rfl,fun i u hu => ?_⟩,beq_yes hb⟩
    have hmem:=List.mem_of_getElem? hu
    rw [List.getElem?_take] at hu
    split at hu
    ·rw [List.getElem?_drop] at hu
     have hcell:=(hS.cell hc hu).1
     have hpu:=atom_pure (List.all_eq_true.1 hp u hmem)
     rw [(hpu ι).1,← Nat.add_assoc] at hcell
     have hlt:=Go.block_lt_of_cell hcell
     exact ⟨hlt,hlt,hcell,hpu⟩
    ·cases hu
  ·cases h
 ·cases h
def xsOf (l : List Value) : Nat → Int:=fun i => asI (l.getD i undef)
def inR (lo hi i : Int) : Bool:=decide (lo ≤ i) && decide (i ≤ hi)
def nodeSum : List Value → Hp → Option (Ending × Hp):=fun args μ => match args with
 | [.agg ⟨[.string nm,d,a,.int .u32 x0,.int .u32 x1,.int .u32 x2,.int .u32 x3,.int .u32 x4,.int .u32 x5,.int .i32 x6,.int .i32 x7,.int .i32 x8,.int .i64 x9,.int .i64 x10,.int .i64 x11,.int .i32 x12]⟩] =>
  match cellsAt μ 1 d,cellsAt μ 3 a with
  | some (vs,n),some (us,m) => match entsOf us with
   | some es => bif vs.all isB && Nat.beq m es.length && us.all atom && es.all (fun e => inR (-128) 127 e.1) && inR (-2147483648) 2147483647 x6 && inR (-2147483648) 2147483647 x7 && inR (-2147483648) 2147483647 x8 && inR (-9223372036854775808) 9223372036854775807 x9 && inR (-2147483648) 2147483647 x12 && Nat.ble (nm.size + n + (aB es).length) 1000000 && Nat.ble m 1000000 then
     some (.returned (.int .u64 (fnvV (nodeRow nm (vs.map asI) es (xsOf [.int .u32 x0,.int .u32 x1,.int .u32 x2,.int .u32 x3,.int .u32 x4,.int .u32 x5,.int .i32 x6,.int .i32 x7,.int .i32 x8,.int .i64 x9,.int .i64 x10,.int .i64 x11,.int .i32 x12])))),μ) else none
   | none => none
  | _,_ => none
 | _ => none
theorem inR_ok {lo hi i : Int} (h : inR lo hi i = true) : lo ≤ i∧i ≤ hi:=by
 simpa [inR] using h
theorem nodeSum_ok {pr : Prot} {w0 : World} {ng f : Nat} (hcon : ∀ (bs : List Int) (es : List Ent) (nm : ByteArray) (x : Nat → Int),(⟨nm,bs,es,x⟩ : Nd).ok → ConWG GT Tryz.prog f (kn13 bs es nm x (fnvV (nodeRow nm bs es x)))) {args : List Value} {μ μ' : Hp} {e : Ending} (h : nodeSum args μ = some (e,μ')) {ι : Ren} {w : World} (hS : Sim pr w0 ng ι μ w) :
  Calls Tryz.prog f (args.map (conc ι)).toArray w fun e' w' => ∃ ι',Ext μ.next ι ι'∧μ.next ≤ μ'.next∧Sim pr w0 ng ι' μ' w'∧EndRel ι' μ'.next e e':=by
 unfold nodeSum at h
 split at h
 ·rename_i nm d a x0 x1 x2 x3 x4 x5 x6 x7 x8 x9 x10 x11 x12
  split at h
  ·rename_i vs n us m hd ha
   split at h
   ·rename_i es hes
    generalize hx : xsOf [.int .u32 x0,.int .u32 x1,.int .u32 x2,.int .u32 x3,.int .u32 x4,.int .u32 x5,.int .i32 x6,.int .i32 x7,.int .i32 x8,.int .i64 x9,.int .i64 x10,.int .i64 x11,.int .i32 x12] = x at h
    cases hb : (vs.all isB && Nat.beq m es.length && us.all atom && es.all (fun e => inR (-128) 127 e.1) && inR (-2147483648) 2147483647 x6 && inR (-2147483648) 2147483647 x7 && inR (-2147483648) 2147483647 x8 && inR (-9223372036854775808) 9223372036854775807 x9 && inR (-2147483648) 2147483647 x12 && Nat.ble (nm.size + n + (aB es).length) 1000000 && Nat.ble m 1000000) with
    | false => rw [hb] at h;cases h
    | true =>
     rw [hb,cond_true] at h
     simp only [Bool.and_eq_true] at hb
     obtain ⟨⟨⟨⟨⟨⟨⟨⟨⟨⟨h1,h2⟩,h3⟩,h4⟩,h6⟩,h7⟩,h8⟩,h9⟩,h12⟩,hl⟩,hm⟩:=hb
     have h2:=beq_yes h2
     have hl:=Nat.le_of_ble_eq_true hl
     have hm:=Nat.le_of_ble_eq_true hm
     cases h
     obtain ⟨hwd,hld⟩:=cellsAt_ok hS hd (isB_atoms h1)
     obtain ⟨hwa,hla⟩:=cellsAt_ok hS ha h3
     have hbv:=bv_asI h1
     have hav:=entsOf_ok hes
     have hok : (⟨nm,vs.map asI,es,x⟩ : Nd).ok:=by
      refine ⟨by simp only [List.length_map];omega,by simp only;omega,fun a ha => inR_ok (List.all_eq_true.1 h4 a ha),?_⟩
      subst hx
      exact ⟨inR_ok h6,inR_ok h7,inR_ok h8,inR_ok h9,inR_ok h12⟩
     have hc:=hcon _ _ _ _ hok
     refine calls_stays hS (pure_int _ _) ?_
     refine callsW (c:=kn13 (vs.map asI) es nm x (fnvV (nodeRow nm (vs.map asI) es x))) (G:=GT) trivial hc (pure_int _ _) (fun i => match i with
      | 0 => conc ι d
      | _ => conc ι a) ?_ ?_
     ·intro i hi
      match i,hi with
      | 0,_ =>
       have : Wd.v (bv (vs.map asI)) (vs.map asI).length = Wd.v vs n:=by rw [hbv,List.length_map,hld,Nat.mul_one]
       show wordF _ (conc ι d) (Wd.v (bv (vs.map asI)) (vs.map asI).length)
       rw [this]
       exact hwd
      | 1,_ =>
       have : Wd.v (av es) es.length = Wd.v us m:=by rw [hav,h2]
       show wordF _ (conc ι a) (Wd.v (av es) es.length)
       rw [this]
       exact hwa
      | i + 2,hi => exact absurd hi (by simp [kn13])
     ·intro ι' hι
      have e0:=hι 0 (by simp [kn13])
      have e1:=hι 1 (by simp [kn13])
      simp only [Nat.mul_zero,Nat.zero_add,Nat.mul_one] at e0 e1
      subst hx
      simp [kn13,nodeV,e0,e1,xsOf,asI]
   ·cases h
  ·cases h
 ·cases h
def names0 : List Int:=[0,183,169,171,173,169,416,64,32,161,161,161,161]
def pow10 : List Int:=[1,10,100,1000,10000,100000,1000000,10000000,100000000,1000000000,10000000000,100000000000,1000000000000,10000000000000,100000000000000,1000000000000000,10000000000000000,100000000000000000,1000000000000000000,10000000000000000000]
def tabs9 : List NumTab:=[⟨0,.u64,names0⟩,⟨1,.u64,pow10⟩]
noncomputable def E9 : Env:={ env Tryz.prog with ng:=9 }
theorem env9 : EnvOk Tryz.prog E9:=env_ng_ok ngT 9
def nodeP : Plain:=fun f => bif Nat.beq f 6 || Nat.beq f 7 then some nodeSum else none
theorem con13' {bs : List Int} {es : List Ent} {nm : ByteArray} {x : Nat → Int} (h : (⟨nm,bs,es,x⟩ : Nd).ok) : ConWG GT Tryz.prog 6 (kn13 bs es nm x (fnvV (nodeRow nm bs es x))):=by
 have hb:=h.b
 have hm:=h.m
 simp only at hb hm
 exact con13 (by omega) (by rw [gB_len,bv_len];simp only [gL,List.length_append,b4_len];omega)
theorem con14' {bs : List Int} {es : List Ent} {nm : ByteArray} {x : Nat → Int} (h : (⟨nm,bs,es,x⟩ : Nd).ok) : ConWG GT Tryz.prog 7 (kn13 bs es nm x (fnvV (nodeRow nm bs es x))):=by
 have hb:=h.b
 have hm:=h.m
 simp only at hb hm
 exact con14 (by omega) h.p h.x (by unfold n39;omega)
theorem nodeP_ok (pr : Prot) (w0 : World) : SumsOk Tryz.prog pr w0 E9.ng nodeP:=by
 intro f s hs args μ e μ' h ι w hS hb
 unfold nodeP at hs
 cases h1 : Nat.beq f 6 with
 | true =>
  rw [h1,Bool.true_or,cond_true,Option.some.injEq] at hs
  subst hs
  have:=beq_yes h1
  subst this
  exact nodeSum_ok (fun bs es nm x hk => con13' hk) h hS
 | false =>
  cases h2 : Nat.beq f 7 with
  | true =>
   rw [h1,h2,Bool.false_or,cond_true,Option.some.injEq] at hs
   subst hs
   have:=beq_yes h2
   subst this
   exact nodeSum_ok (fun bs es nm x hk => con14' hk) h hS
  | false => rw [h1,h2] at hs;cases hs
end Go.Abs
end
