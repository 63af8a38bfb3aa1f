/-
  What the law's functions come to: part A.
-/
import Derived.Test.YthopfmokkpoabaaGreatDoorBmE
import Derived.Test.YthopfmokkpoabaaGreatDoorProg
import Derived.KernelRfl
import Derived.Shelf.Strconv.Itoa3
import Derived.Ground.NamesProg
import Derived.WalkKit
import Derived.BigCall
import Derived.Lib.ItoaLen
import Derived.Lib.Walk
set_option linter.unusedVariables false
set_option linter.unusedSimpArgs false
set_option linter.unusedSectionVars false
section
namespace Go.Abs
open Go.Proofs
set_option maxRecDepth 100000
noncomputable def E1:=env Tryz.prog
theorem ngT : noGo Tryz.prog = true:=by kernel_rfl
theorem mixT : Tryz.prog.follows .mixedOrders = true:=by kernel_rfl
theorem hE1 : EnvOk Tryz.prog E1:=env_ok ngT
theorem hP1 : Okk Tryz.prog E1:=⟨hE1,rfl,mixT⟩
noncomputable def codeAt (f : Func) (p : List Nat) : Code:=((f.body.bind fun c => sub c p)).getD .skip
theorem getD_some {l : List Int} {i : Nat} (h : i < l.length) : l[i]? = some (l.getD i 0):=by rw [List.getElem?_eq_getElem h];simp [List.getD_eq_getElem?_getD,List.getElem?_eq_getElem h]
theorem putAt_one {α : Type} (vs : List α) (o : Nat) (x : α) (h : o < vs.length) : putAt vs o [x] = vs.set o x:=by
 simp only [putAt,List.set_eq_take_append_cons_drop,h,if_true,List.length_cons,List.length_nil,List.cons_append,List.nil_append]
theorem putAt_twice {α : Type} (r : List α) (k : Nat) (a b : α) (h : k < r.length) : putAt (putAt r k [a]) k [b] = putAt r k [b]:=by
 rw [putAt_one r k a h,putAt_one r k b h,putAt_one _ k b (by rw [List.length_set];exact h),List.set_set]
def bv (bs : List Int) : List Value:=bs.map (Value.int .u8)
theorem bv_get {bs : List Int} {k : Nat} (h : k < bs.length) : (bv bs)[0 + k * 1]? = some (.int .u8 (bs.getD k 0)):=by
 rw [Nat.zero_add,Nat.mul_one,bv,List.getElem?_map,getD_some h];rfl
def PlainC (r : List Value) : Prop:=∀ v ∈ r,(∀ N,Bd N v)∧∀ σ,upV σ v = v
theorem PlainC.map {r : List Value} (h : PlainC r) (σ : Nat → Nat) : r.map (upV σ) = r:=by
 have : r.map (upV σ) = r.map id:=List.map_congr_left fun v hv => (h v hv).2 σ
 rw [this,List.map_id]
theorem on_keep {P : Program} {E : Env} {pr : Prot} {w0 : World} (hP : Okk P E) {s : Sm} (hs : SmOk P E pr w0 s) {f : Nat} {p : List Nat} {c : Code} (hh : Here E f p c) {n : Nat}
  {T : Type} {L : Lp T} {t : T} {Ψ : Post} {N : Nat} {orc : List Ans}
  {ts1 : List (Nat × Value)} {os1 : List (Nat × AObj)} {n1 : Nat} (hc : Ran (codeO P E s noRun n f p c (L.fr t) (L.hp t) orc True) .normal L.sz ts1 os1 n1)
  (t' : T) (ht : ∀ p ∈ L.ts t',p ∈ ts1) (ho : ∀ p ∈ L.os t',p ∈ os1) (hm : L.m t' < L.m t) (hF : Fits N (L.ts t') (L.os t') (L.nx t')) :
  Tri P pr w0 N c (L.fr t) (L.hp t) (LoopPost L t Ψ) :=
 on_via hP hs hh hc (fun n => n) t' (fun p hp => by rw [upV_id];exact ht p hp) (fun p hp => by rw [upO_id];exact ho p hp) (fun p _ q _ h => h) (fun _ _ => rfl) hm hF
theorem i64_succ {k : Nat} (h : k + 1 ≤ 9223372036854775807) : IntKind.i64.wrap ((k : Int) + 1) = ((k + 1 : Nat) : Int):=by rw [i64_small (by omega) (by omega)];rfl
end Go.Abs
end
section
namespace Go.Proofs
open Go.Shelf
def Tryz.laysItoa_ren : Go.Shelf.Ren:=⟨fun | 171 => 40 | 243 => 68 | 246 => 89 | 283 => 114 | 284 => 115 | 285 => 116 | 286 => 117 | 129 => 128 | 317 => 160 | 318 => 161 | 319 => 162 | 320 => 163 | 337 => 193 | 338 => 194 | n => n,fun | 3 => 3 | 9 => 9 | 2 => 2 | 4 => 4 | 171 => 179 | 0 => 0 | 53 => 25 | 37 => 27 | 5 => 5 | 173 => 182 | 212 => 219 | 51 => 29 | 20 => 20 | 213 => 220 | 46 => 147 | 232 => 267 | 233 => 268 | n => n,fun | 17 => 1 | 18 => 3 | 19 => 4 | n => n⟩
theorem Tryz.laysItoa : Go.Proofs.LaysM.n171 Tryz.prog Tryz.laysItoa_ren:={
 mixed:=by kernel_rfl
 f129:=Tryz.func128.trans (congrArg some (by kernel_rfl))
 f171:=Tryz.func40.trans (congrArg some (by kernel_rfl))
 f243:=Tryz.func68.trans (congrArg some (by kernel_rfl))
 f246:=Tryz.func89.trans (congrArg some (by kernel_rfl))
 f283:=Tryz.func114.trans (congrArg some (by kernel_rfl))
 f284:=Tryz.func115.trans (congrArg some (by kernel_rfl))
 f285:=Tryz.func116.trans (congrArg some (by kernel_rfl))
 f286:=Tryz.func117.trans (congrArg some (by kernel_rfl))
 f317:=Tryz.func160.trans (congrArg some (by kernel_rfl))
 f318:=Tryz.func161.trans (congrArg some (by kernel_rfl))
 f319:=Tryz.func162.trans (congrArg some (by kernel_rfl))
 f320:=Tryz.func163.trans (congrArg some (by kernel_rfl))
 f337:=Tryz.func193.trans (congrArg some (by kernel_rfl))
 f338:=Tryz.func194.trans (congrArg some (by kernel_rfl))
 t0:=Tryz.underlying0
 a0:=Tryz.isAgg0
 z0:=Tryz.sizeOf0
 v0:=Tryz.zeroValue0
 t2:=Tryz.underlying2
 a2:=Tryz.isAgg2
 z2:=Tryz.sizeOf2
 v2:=Tryz.zeroValue2
 t3:=Tryz.underlying3
 a3:=Tryz.isAgg3
 z3:=Tryz.sizeOf3
 v3:=Tryz.zeroValue3
 t4:=Tryz.underlying4
 a4:=Tryz.isAgg4
 z4:=Tryz.sizeOf4
 v4:=Tryz.zeroValue4
 t5:=Tryz.underlying5
 a5:=Tryz.isAgg5
 z5:=Tryz.sizeOf5
 v5:=Tryz.zeroValue5
 t9:=Tryz.underlying9
 a9:=Tryz.isAgg9
 z9:=Tryz.sizeOf9
 v9:=Tryz.zeroValue9
 t20:=Tryz.underlying20
 a20:=Tryz.isAgg20
 z20:=Tryz.sizeOf20
 v20:=Tryz.zeroValue20
 t37:=Tryz.underlying27
 a37:=Tryz.isAgg27
 z37:=Tryz.sizeOf27
 v37:=Tryz.zeroValue27
 t46:=Tryz.underlying147
 a46:=Tryz.isAgg147
 z46:=Tryz.sizeOf147
 v46:=Tryz.zeroValue147
 t51:=Tryz.underlying29
 a51:=Tryz.isAgg29
 z51:=Tryz.sizeOf29
 v51:=Tryz.zeroValue29
 t53:=Tryz.underlying25
 a53:=Tryz.isAgg25
 z53:=Tryz.sizeOf25
 v53:=Tryz.zeroValue25
 t171:=Tryz.underlying179
 a171:=Tryz.isAgg179
 z171:=Tryz.sizeOf179
 v171:=Tryz.zeroValue179
 t173:=Tryz.underlying182
 a173:=Tryz.isAgg182
 z173:=Tryz.sizeOf182
 v173:=Tryz.zeroValue182
 t212:=Tryz.underlying219
 a212:=Tryz.isAgg219
 z212:=Tryz.sizeOf219
 v212:=Tryz.zeroValue219
 t213:=Tryz.underlying220
 a213:=Tryz.isAgg220
 z213:=Tryz.sizeOf220
 t232:=Tryz.underlying267
 a232:=Tryz.isAgg267
 z232:=Tryz.sizeOf267
 v232:=Tryz.zeroValue267
 t233:=Tryz.underlying268
 a233:=Tryz.isAgg268
 z233:=Tryz.sizeOf268
 v233:=Tryz.zeroValue268
 g17:=by kernel_rfl
 g18:=by kernel_rfl
 g19:=by kernel_rfl
 i0:=by kernel_rfl
 i2:=by kernel_rfl
 i3:=by kernel_rfl
 i4:=by kernel_rfl
 i5:=by kernel_rfl
 i9:=by kernel_rfl
 i20:=by kernel_rfl
 i37:=by kernel_rfl
 i46:=by kernel_rfl
 i51:=by kernel_rfl
 i53:=by kernel_rfl
 i171:=by kernel_rfl
 i173:=by kernel_rfl
 i212:=by kernel_rfl
 i232:=by kernel_rfl
 i233:=by kernel_rfl
 m17:=by kernel_rfl
 m18:=by kernel_rfl
 m19:=by kernel_rfl }
end Go.Proofs
end
section
namespace Go.Abs
open Go.Proofs
set_option maxRecDepth 100000
def tW (n m k : Nat) : List (Nat × Value):=[(0,.chan (some 1)),(3,.slice (some ⟨2,0,none⟩) m (2 * m)),(4,.int .i64 k)]
def oW (n : Nat) (vs r : List Value) : List (Nat × AObj):=[(0,.rov vs),(1,.word n 0),(2,.cells r 0)]
def oE (n : Nat) (vs us : List Value) : List (Nat × AObj):=[(0,.rov vs),(1,.word n 0),(2,.rov us),(3,.word n 2)]
def tE15 (k : Nat) : List (Nat × Value):=[(0,.chan (some 1)),(1,.chan (some 3)),(4,.bool false),(5,.int .i64 k)]
theorem e26_0 (n : Nat) (m : Nat) (k : Nat) (vs : List Value) (r : List Value) (x : Int) (h0 : decide ((↑k : Int) < (↑m : Int)) = true) (h1 : 0 ≤ (↑k : Int)∧(↑k : Int) < (↑m : Int)) (h2 : 0 + Int.toNat (↑k : Int) * 1 + 1 ≤ List.length r∧true = true) (h3 : decide ((↑k : Int) < (↑n : Int)) = true) (h4 : 0 ≤ (↑k : Int)∧(↑k : Int) < (↑n : Int)) (h5 : vs[0 + Int.toNat (↑k : Int) * 1]? = some (Value.int IntKind.u8 x)) (h6 : 0 + Int.toNat (↑k : Int) * 1 + 1 ≤ List.length (putAt r (0 + Int.toNat (↑k : Int) * 1) [Value.int IntKind.u8 (IntKind.wrap IntKind.u8 (IntKind.wrap IntKind.i64 (170 + Int.tmod (↑k : Int) 5)))])∧true = true) :
  Ran (codeO Tryz.prog E1 (sm0) noRun 100 38 [0,0,1,0,1,1] (codeAt Tryz.f38 [0,0,1,0,1,1]) (mkFr 37 (tW n m k)) (mkHp 3 (oW n vs r)) [.skip 4,.b true,.skip 6,.sym,.sym,.skip 4,.b true,.skip 4,.sym,.v (Value.int IntKind.u8 x),.sym,.sym] True) (Exit.normal) 37 [(0,Value.chan (some 1)),(3,Value.slice (some (Addr.mk 2 0 none)) m (2 * m)),(4,Value.int IntKind.i64 (IntKind.wrap IntKind.i64 ((↑k : Int) + 1)))] [(0,AObj.rov vs),(1,AObj.word n 0),(2,AObj.cells (putAt (putAt r (0 + Int.toNat (↑k : Int) * 1) [Value.int IntKind.u8 (IntKind.wrap IntKind.u8 (IntKind.wrap IntKind.i64 (170 + Int.tmod (↑k : Int) 5)))]) (0 + Int.toNat (↑k : Int) * 1) [Value.int IntKind.u8 x]) 0)] 3 :=
 cameF_of (O:=((((((((True∧decide ((↑k : Int) < (↑m : Int)) = true)∧0 ≤ (↑k : Int)∧(↑k : Int) < (↑m : Int))∧0 + Int.toNat (↑k : Int) * 1 + 1 ≤ List.length r∧true = true)∧decide ((↑k : Int) < (↑n : Int)) = true)∧0 ≤ (↑k : Int)∧(↑k : Int) < (↑n : Int))∧vs[0 + Int.toNat (↑k : Int) * 1]? = some (Value.int IntKind.u8 x))∧0 ≤ (↑k : Int)∧(↑k : Int) < (↑m : Int))∧0 + Int.toNat (↑k : Int) * 1 + 1 ≤ List.length (putAt r (0 + Int.toNat (↑k : Int) * 1) [Value.int IntKind.u8 (IntKind.wrap IntKind.u8 (IntKind.wrap IntKind.i64 (170 + Int.tmod (↑k : Int) 5)))])∧true = true)) (by kernel_rfl) ⟨⟨⟨⟨⟨⟨⟨⟨trivial,h0⟩,h1⟩,h2⟩,h3⟩,h4⟩,h5⟩,h1⟩,h6⟩
theorem e26_1 (n : Nat) (m : Nat) (k : Nat) (vs : List Value) (r : List Value) (x : Int) (h0 : decide ((↑k : Int) < (↑m : Int)) = true) (h1 : 0 ≤ (↑k : Int)∧(↑k : Int) < (↑m : Int)) (h2 : 0 + Int.toNat (↑k : Int) * 1 + 1 ≤ List.length r∧true = true) (h3 : decide ((↑k : Int) < (↑n : Int)) = false) :
  Ran (codeO Tryz.prog E1 (sm0) noRun 100 38 [0,0,1,0,1,1] (codeAt Tryz.f38 [0,0,1,0,1,1]) (mkFr 37 (tW n m k)) (mkHp 3 (oW n vs r)) [.skip 4,.b true,.skip 6,.sym,.sym,.skip 4,.b false] True) (Exit.normal) 37 [(0,Value.chan (some 1)),(3,Value.slice (some (Addr.mk 2 0 none)) m (2 * m)),(4,Value.int IntKind.i64 (IntKind.wrap IntKind.i64 ((↑k : Int) + 1)))] [(0,AObj.rov vs),(1,AObj.word n 0),(2,AObj.cells (putAt r (0 + Int.toNat (↑k : Int) * 1) [Value.int IntKind.u8 (IntKind.wrap IntKind.u8 (IntKind.wrap IntKind.i64 (170 + Int.tmod (↑k : Int) 5)))]) 0)] 3 :=
 cameF_of (O:=((((True∧decide ((↑k : Int) < (↑m : Int)) = true)∧0 ≤ (↑k : Int)∧(↑k : Int) < (↑m : Int))∧0 + Int.toNat (↑k : Int) * 1 + 1 ≤ List.length r∧true = true)∧decide ((↑k : Int) < (↑n : Int)) = false)) (by kernel_rfl) ⟨⟨⟨⟨trivial,h0⟩,h1⟩,h2⟩,h3⟩
theorem e26_2 (n : Nat) (m : Nat) (k : Nat) (vs : List Value) (r : List Value) (x : Int) (h0 : decide ((↑k : Int) < (↑m : Int)) = false) :
  Ran (codeO Tryz.prog E1 (sm0) noRun 100 38 [0,0,1,0,1,1] (codeAt Tryz.f38 [0,0,1,0,1,1]) (mkFr 37 (tW n m k)) (mkHp 3 (oW n vs r)) [.skip 4,.b false] True) (Exit.exit 0) 37 [(0,Value.chan (some 1)),(3,Value.slice (some (Addr.mk 2 0 none)) m (2 * m)),(4,Value.int IntKind.i64 (↑k : Int))] [(0,AObj.rov vs),(1,AObj.word n 0),(2,AObj.cells r 0)] 3 :=
 cameF_of (O:=(True∧decide ((↑k : Int) < (↑m : Int)) = false)) (by kernel_rfl) ⟨trivial,h0⟩
theorem e15_1 (n : Nat) (k : Nat) (vs : List Value) (us : List Value) (x : Int) (y : Int) (h0 : decide ((↑k : Int) < (↑n : Int)) = true) (h1 : 0 ≤ (↑k : Int)∧(↑k : Int) < (↑n : Int)) (h2 : vs[0 + Int.toNat (↑k : Int) * 1]? = some (Value.int IntKind.u8 x)) (h3 : us[0 + Int.toNat (↑k : Int) * 1]? = some (Value.int IntKind.u8 y)) (h4 : (x != y) = false) :
  Ran (codeO Tryz.prog E1 (sm0) noRun 100 25 [0,0,1,0,1,1] (codeAt Tryz.f25 [0,0,1,0,1,1]) (mkFr 26 (tE15 k)) (mkHp 4 (oE n vs us)) [.skip 4,.b true,.skip 2,.sym,.v (Value.int IntKind.u8 x),.skip 2,.sym,.v (Value.int IntKind.u8 y),.skip 1,.b false] True) (Exit.normal) 26 [(0,Value.chan (some 1)),(1,Value.chan (some 3)),(4,Value.bool false),(5,Value.int IntKind.i64 (IntKind.wrap IntKind.i64 ((↑k : Int) + 1)))] [(0,AObj.rov vs),(1,AObj.word n 0),(2,AObj.rov us),(3,AObj.word n 2)] 4 :=
 cameF_of (O:=(((((((True∧decide ((↑k : Int) < (↑n : Int)) = true)∧0 ≤ (↑k : Int)∧(↑k : Int) < (↑n : Int))∧vs[0 + Int.toNat (↑k : Int) * 1]? = some (Value.int IntKind.u8 x))∧0 ≤ (↑k : Int)∧(↑k : Int) < (↑n : Int))∧us[0 + Int.toNat (↑k : Int) * 1]? = some (Value.int IntKind.u8 y))∧True∧True∧True∧True∧True∧True∧True∧True∧True∧True)∧(x != y) = false)) (by kernel_rfl) ⟨⟨⟨⟨⟨⟨⟨trivial,h0⟩,h1⟩,h2⟩,h1⟩,h3⟩,⟨trivial,⟨trivial,⟨trivial,⟨trivial,⟨trivial,⟨trivial,⟨trivial,⟨trivial,⟨trivial,trivial⟩⟩⟩⟩⟩⟩⟩⟩⟩⟩,h4⟩
theorem e15_2 (n : Nat) (k : Nat) (vs : List Value) (us : List Value) (x : Int) (y : Int) (h0 : decide ((↑k : Int) < (↑n : Int)) = false) :
  Ran (codeO Tryz.prog E1 (sm0) noRun 100 25 [0,0,1,0,1,1] (codeAt Tryz.f25 [0,0,1,0,1,1]) (mkFr 26 (tE15 k)) (mkHp 4 (oE n vs us)) [.skip 4,.b false] True) (Exit.exit 0) 26 [(0,Value.chan (some 1)),(1,Value.chan (some 3)),(4,Value.bool false),(5,Value.int IntKind.i64 (↑k : Int))] [(0,AObj.rov vs),(1,AObj.word n 0),(2,AObj.rov us),(3,AObj.word n 2)] 4 :=
 cameF_of (O:=(True∧decide ((↑k : Int) < (↑n : Int)) = false)) (by kernel_rfl) ⟨trivial,h0⟩
def mkB (j : Nat) : Int:=IntKind.u8.wrap (IntKind.i64.wrap (170 + Int.tmod (j : Int) 5))
def cell26 (bs : List Int) (j : Nat) : List Value:=[.int .u8 (if j < bs.length then bs.getD j 0 else mkB j)]
def row26 (bs : List Int) (m : Nat) : List Value:=rows (fun j => [.int .u8 (if j < bs.length then bs.getD j 0 else IntKind.u8.wrap (IntKind.i64.wrap (170 + Int.tmod (j : Int) 5)))]) m
def q26 (n m : Nat) (vs r : List Value) : Sm:=withL sm0 38 [1,0,1,1] (piece 37 (tW n m 0) (oW n vs (copies [.int .u8 0] m)) 3 .normal (mkFr 37 [(0,.chan (some 1)),(3,.slice (some ⟨2,0,none⟩) m (2 * m))]) (mkHp 3 (oW n vs r)))
def q15 (n : Nat) (vs us : List Value) : Sm:=withL sm0 25 [1,0,1,1] (piece 26 (tE15 0) (oE n vs us) 4 .normal (mkFr 26 [(4,.bool false)]) (mkHp 4 (oE n vs us)))
theorem c26_came (n : Nat) (m : Nat) (vs : List Value) (r : List Value) (h0 : IntKind.wrap .i64 ((↑n : Int) + 64) = (↑m : Int)∧IntKind.wrap .i64 ((↑n : Int) + 64) = (↑m : Int)∧1 * m ≤ 281474976710656∧m ≤ 9223372036854775807) (h1 : 0 ≤ (↑n : Int)) (h2 : (↑n : Int) ≤ (↑(capOf (2 * m)) : Int)) (h3 : 0 ≤ capOf (2 * m)) (h4 : 0 ≠ capOf (2 * m)) :
  RanC (runO Tryz.prog E1 (q26 n m vs r) noRun 100 38 [Value.chan (some 1)] (mkHp 2 (wordsOs [Wd.v vs n] 0 fun n => n)) [.skip 4,.mk m,.skip 5,.sym] True) (.returned (Value.slice (some ⟨2,0,none⟩) n (2 * m - 0))) [(0,AObj.rov vs),(1,AObj.word n 0),(2,AObj.cells r 0)] 3 :=
 cameCF_of (O:=(((True∧IntKind.wrap .i64 ((↑n : Int) + 64) = (↑m : Int)∧IntKind.wrap .i64 ((↑n : Int) + 64) = (↑m : Int)∧1 * m ≤ 281474976710656∧m ≤ 9223372036854775807)∧SelfP 37 (tW n m 0) (oW n vs (copies [Value.int .u8 0] m)) 3)∧((0 ≤ (↑n : Int)∧(↑n : Int) ≤ (↑(capOf (2 * m)) : Int))∧True∧0 ≤ capOf (2 * m))∧0 ≠ capOf (2 * m))) (by kernel_rfl) ⟨⟨⟨trivial,h0⟩,selfP_true _ _ _ _⟩,⟨⟨⟨h1,h2⟩,⟨trivial,h3⟩⟩,h4⟩⟩
theorem c15_came (n : Nat) (vs : List Value) (us : List Value) (h0 : ((↑n : Int) != (↑n : Int)) = false) :
  RanC (runO Tryz.prog E1 (q15 n vs us) noRun 100 25 [Value.chan (some 1),Value.chan (some 3)] (mkHp 4 (wordsOs [Wd.v vs n,Wd.v us n] 0 fun n => n)) [.skip 6,.b false] True) (.returned (Value.bool true)) [(0,AObj.rov vs),(1,AObj.word n 0),(2,AObj.rov us),(3,AObj.word n 2)] 4 :=
 cameCF_of (O:=((True∧((↑n : Int) != (↑n : Int)) = false)∧SelfP 26 (tE15 0) (oE n vs us) 4)) (by kernel_rfl) ⟨⟨trivial,h0⟩,selfP_true _ _ _ _⟩
def K26 (bs : List Int) : ConW:=⟨fun X => [X 0],[.v (bv bs) bs.length],fun σ => .slice (some ⟨σ 2,0,none⟩) bs.length (2 * (bs.length + 64)),fun _ => [.cells (row26 bs (bs.length + 64)) 0]⟩
theorem row26_plain (bs : List Int) (m : Nat) : PlainC (row26 bs m):=by
 intro v hv
 obtain ⟨j,_,hj⟩:=rows_mem hv
 simp at hj
 subst hj
 exact ⟨fun N => by simp,fun σ => by simp [upV]⟩
theorem con26 {G : Prot → World → Prop} {bs : List Int} (hsm : bs.length < 1099511627776) : ConWG G Tryz.prog 38 (K26 bs):=by
 have hw : IntKind.i64.wrap ((bs.length : Int) + 64) = ((bs.length + 64 : Nat) : Int):=by
  rw [i64_small (by omega) (by omega)];omega
 have hbo : ∀ k,∀ p ∈ oW bs.length (bv bs) (fill (cell26 bs) (fun _ => [.int .u8 0]) (bs.length + 64) k),p.1 < 3∧BdO 3 p.2:=by
  intro k p hp
  simp only [oW,List.mem_cons,List.not_mem_nil,or_false] at hp
  rcases hp with rfl | rfl | rfl
  ·exact ⟨by simp,trivial⟩
  ·exact ⟨by simp,by simp [BdO]⟩
  ·refine ⟨by simp,?_⟩
   intro v hv
   obtain ⟨j,_,hj⟩:=rows_mem hv
   simp only at hj
   split at hj <;> simp [cell26] at hj <;> subst hj <;> simp
 have hF : ∀ k ts,(∀ p ∈ ts,Bd 3 p.2) → smallN ts = true → Fits 3 ts (oW bs.length (bv bs) (fill (cell26 bs) (fun _ => [.int .u8 0]) (bs.length + 64) k)) 3:=fun k ts h1 h2 => ⟨h2,rfl,h1,hbo k,by decide,by decide⟩
 have hcop : copies [Value.int .u8 0] (bs.length + 64) = fill (cell26 bs) (fun _ => [.int .u8 0]) (bs.length + 64) 0:=by rw [copies_rows,fill_zero]
 have hful : row26 bs (bs.length + 64) = fill (cell26 bs) (fun _ => [.int .u8 0]) (bs.length + 64) (bs.length + 64):=by rw [fill_full];rfl
 have hcap : capOf (2 * (bs.length + 64)) = bs.length + 64:=by simp [capOf]
 refine conW_run hP1 (s:=q26 bs.length (bs.length + 64) (bv bs) (row26 bs (bs.length + 64))) (fun pr w0 _ => withL_ok (sm0_ok pr w0) (fn:=Tryz.f38) (c:=.block 0 (.loop (codeAt Tryz.f38 [0,0,1,0,1,1]))) (by kernel_rfl) (by kernel_rfl) (block_end (by rw [hcop];exact hF 0 _ (by simp [tW]) rfl) ?_))
  (c26_came bs.length (bs.length + 64) (bv bs) (row26 bs (bs.length + 64)) ⟨hw,hw,by omega,by omega⟩ (by omega) (by rw [hcap];omega) (by omega) (by rw [hcap];omega)) (by simp [K26,limit]) ⟨rfl,rfl,by simp,by rw [hful];exact fun p hp => hbo _ p hp,by decide,(by decide : 2 ≤ 3)⟩ (by simp [K26]) (by simp [K26]) (by intro ι ι' f g h;simp [K26,h 0 (by simp [K26])]) (by intro σ;simp [K26,upV]) (by intro σ;simp [K26,upO,(row26_plain _ _).map]) rfl ?_
 ·rw [hcop,hful]
  have hh : Here E1 38 [0,0,1,0,1,1] (codeAt Tryz.f38 [0,0,1,0,1,1]):=codeAt_here (fn:=Tryz.f38) (by kernel_rfl) (by kernel_rfl)
  refine rounds_tri (T:={ k : Nat // k ≤ bs.length + 64 }) ⟨37,fun t => tW bs.length (bs.length + 64) t.1,fun t => oW bs.length (bv bs) (fill (cell26 bs) (fun _ => [.int .u8 0]) (bs.length + 64) t.1),fun _ => 3,fun t => bs.length + 64 - t.1⟩ ?_ ⟨0,Nat.zero_le _⟩
  rintro ⟨k,hk⟩
  have hlen : (fill (cell26 bs) (fun _ => [Value.int .u8 0]) (bs.length + 64) k).length = bs.length + 64:=by
   rw [fill_length (s:=1) (fun _ _ => rfl) (fun _ _ => rfl),Nat.mul_one]
  have hk0 : 0 + Int.toNat (k : Int) * 1 = k:=by simp
  by_cases hlt : k < bs.length + 64
  ·have hput:=fill_put (g:=cell26 bs) (z:=fun _ => [Value.int .u8 0]) (s:=1) (m:=bs.length + 64) (k:=k) (fun _ _ => rfl) (fun _ _ => rfl) hlt
   rw [Nat.mul_one] at hput
   have hk1:=i64_succ (k:=k) (by omega)
   by_cases hkn : k < bs.length
   ·have hc:=e26_0 bs.length (bs.length + 64) k (bv bs) (fill (cell26 bs) (fun _ => [.int .u8 0]) (bs.length + 64) k) (bs.getD k 0) (by simp;omega) (by omega) ⟨by rw [hk0,hlen];omega,rfl⟩ (by simp;omega) (by omega) (bv_get hkn) ⟨by rw [hk0];simp only [putAt,List.length_append,List.length_take,List.length_drop,hlen,List.length_cons,List.length_nil];omega,rfl⟩
    rw [hk0,putAt_twice _ _ _ _ (by omega),hk1] at hc
    have hcell : [Value.int .u8 (bs.getD k 0)] = cell26 bs k:=by simp only [cell26,hkn,if_true]
    rw [hcell,hput] at hc
    exact on_came hP1 (sm0_ok pr w0) hh hc ⟨k + 1,hlt⟩ rfl rfl rfl (by simp only;omega) (hF _ _ (by simp [tW]) rfl)
   ·have hc:=e26_1 bs.length (bs.length + 64) k (bv bs) (fill (cell26 bs) (fun _ => [.int .u8 0]) (bs.length + 64) k) 0 (by simp;omega) (by omega) ⟨by rw [hk0,hlen];omega,rfl⟩ (by simp;omega)
    rw [hk0,hk1] at hc
    have hcell : [Value.int .u8 (IntKind.u8.wrap (IntKind.i64.wrap (170 + Int.tmod (k : Int) 5)))] = cell26 bs k:=by simp only [cell26,hkn,if_false,mkB]
    rw [hcell,hput] at hc
    exact on_came hP1 (sm0_ok pr w0) hh hc ⟨k + 1,hlt⟩ rfl rfl rfl (by simp only;omega) (hF _ _ (by simp [tW]) rfl)
  ·have hk' : k = bs.length + 64:=by omega
   subst hk'
   have hc:=cut_came (e26_2 bs.length (bs.length + 64) (bs.length + 64) (bv bs) (fill (cell26 bs) (fun _ => [.int .u8 0]) (bs.length + 64) (bs.length + 64)) 0 (by simp)) (ts':=[(0,.chan (some 1)),(3,.slice (some ⟨2,0,none⟩) (bs.length + 64) (2 * (bs.length + 64)))]) (by simp)
   exact out_came hP1 (sm0_ok pr w0) hh hc (by simp) (by simp) (hF _ _ (by simp) rfl) ⟨rfl,rfl,rfl⟩
 ·intro j o' hj
  match j,hj with
  | 0,hj => exact hj
  | j + 1,hj => simp [K26] at hj
def K15 (bs : List Int) : ConW:=⟨fun X => [X 0,X 1],[.v (bv bs) bs.length,.v (bv bs) bs.length],fun _ => .bool true,fun _ => []⟩
theorem pure_bool (b : Bool) : Pure (.bool b):=fun ι => by simp
theorem pure_int (k : IntKind) (i : Int) : Pure (.int k i):=fun ι => by simp
theorem con15 {G : Prot → World → Prop} {bs : List Int} (hsm : bs.length < 9223372036854775807) : ConWG G Tryz.prog 25 (K15 bs):=by
 have hF : ∀ ts,(∀ p ∈ ts,Bd 4 p.2) → smallN ts = true → Fits 4 ts (oE bs.length (bv bs) (bv bs)) 4:=fun ts h1 h2 => ⟨h2,rfl,h1,by simp [oE,BdO],by decide,by decide⟩
 refine conW_read hP1 (s:=q15 bs.length (bv bs) (bv bs)) (fun pr w0 _ => withL_ok (sm0_ok pr w0) (fn:=Tryz.f25) (c:=.block 0 (.loop (codeAt Tryz.f25 [0,0,1,0,1,1]))) (by kernel_rfl) (by kernel_rfl) (block_end (hF _ (by simp [tE15]) rfl) ?_)) (c15_came bs.length (bv bs) (bv bs) (by simp)) (by simp [limit]) (hF _ (by simp) rfl) (by simp) (pure_bool _) (by intro ι ι' f g h;simp [h 0 (by simp),h 1 (by simp)]) (by intro σ;simp [upV])
 have hh : Here E1 25 [0,0,1,0,1,1] (codeAt Tryz.f25 [0,0,1,0,1,1]):=codeAt_here (fn:=Tryz.f25) (by kernel_rfl) (by kernel_rfl)
 refine rounds_tri (T:={ k : Nat // k ≤ bs.length }) ⟨26,fun t => tE15 t.1,fun _ => oE bs.length (bv bs) (bv bs),fun _ => 4,fun t => bs.length - t.1⟩ ?_ ⟨0,Nat.zero_le _⟩
 rintro ⟨k,hk⟩
 by_cases hlt : k < bs.length
 ·refine on_came hP1 (sm0_ok pr w0) hh (e15_1 bs.length k (bv bs) (bv bs) (bs.getD k 0) (bs.getD k 0) (by simp;omega) (by omega) (bv_get hlt) (bv_get hlt) (by simp)) ⟨k + 1,hlt⟩ ?_ rfl rfl (by simp only;omega) (hF _ (by simp [tE15]) rfl)
  rw [i64_succ (by omega)];rfl
 ·have hc:=cut_came (e15_2 bs.length k (bv bs) (bv bs) 0 0 (by simp;omega)) (ts':=[(4,.bool false)]) (by simp)
  exact out_came hP1 (sm0_ok pr w0) hh hc (by simp) (by simp) (hF _ (by simp) rfl) ⟨rfl,rfl,rfl⟩
end Go.Abs
end
section
namespace Go.Abs
open Go.Proofs
set_option maxRecDepth 100000
def Tab (pr : Prot) (w : World) : Prop := Lib.TabIs Tryz.prog w "internal/strconv.uint64pow10" .u64 Lib.pow10Tab ∧ pr.p 1
theorem g1 : Tryz.prog.globalNamed "internal/strconv.uint64pow10" = some 1 := by kernel_rfl
theorem Tab.lt {pr : Prot} {w : World} (h : Tab pr w) : 1 < w.heap.size:=by
 have:=h.1
 rw [Lib.TabIs,World.var?,g1] at this
 simp only [Option.bind_some] at this
 cases hc : w.heap[1]? with
 | none => rw [hc] at this;cases this
 | some o => exact (Array.getElem?_eq_some_iff.1 hc).1
theorem tab_stands : StandsL Tab:=by
 intro pr w0 pr' w hG hsz hk
 have h1:=hk 1 hG.lt hG.2
 refine ⟨?_,h1.1⟩
 have h2:=hG.1
 rw [Lib.TabIs,World.var?,g1] at h2 ⊢
 simp only [Option.bind_some] at h2 ⊢
 rw [h1.2];exact h2
theorem grow_below (B : Nat) (w : World) (k : Nat) (os) (hB : B ≤ w.heap.size) : RowKit.Below B w (Sort.grow (w.drewN k) os):=by
 refine ⟨rfl,rfl,rfl,?_,fun j hj => ?_⟩
 ·simp [Sort.grow,World.drewN]
 ·simp only [Sort.grow,World.drewN]
  exact Array.getElem?_append_left (by omega)
def rng (n : Int) : Prop:=-9223372036854775808 ≤ n∧n ≤ 9223372036854775807
def numQ (g : Int → List UInt8) : List Value → Hp → Option (Value × Prop):=fun args _ => match args with
 | [.int .i64 n] => some (.string ⟨(g n).toArray⟩,rng n)
 | _ => none
def markT (n : Int) : List UInt8:=33 :: Lib.itoa n
noncomputable def smM : Sm:=withQ sm0 13 (numQ markT)
theorem itoa28 (n : Int) (h0 : -9223372036854775808 ≤ n) (h1 : n ≤ 9223372036854775807) (w : World) (htab : Lib.TabIs Tryz.prog w "internal/strconv.uint64pow10" .u64 Lib.pow10Tab) :
  Calls Tryz.prog 40 #[.int .i64 n] w fun e w' => e = .returned (.string ⟨(Lib.itoa n).toArray⟩)∧∃ k os,w' = Sort.grow (w.drewN k) os:=Any.strconv_Itoa Tryz.laysItoa n h0 h1 w htab
theorem numS_ok {pr : Prot} {w0 : World} (hG : Tab pr w0) {f : Nat} {g : Int → List UInt8}
  (h : ∀ n w, rng n → Lib.TabIs Tryz.prog w "internal/strconv.uint64pow10" .u64 Lib.pow10Tab → Calls Tryz.prog f #[.int .i64 n] w fun e w' => e = .returned (.string ⟨(g n).toArray⟩) ∧ RowKit.Below w.heap.size w w') : SumOk Tryz.prog pr w0 0 f (pureS (numQ g)) := by
 intro args μ e μ' p hg hp ι w hS hbd
 unfold pureS at hg
 split at hg
 case h_2 => cases hg
 rename_i v p' hq
 unfold numQ at hq
 split at hq
 ·rename_i n
  simp only [Option.some.injEq,Prod.mk.injEq] at hg hq
  obtain ⟨rfl,rfl⟩:=hq
  obtain ⟨rfl,rfl,rfl⟩:=hg
  have hT:=tab_stands.stands _ _ _ _ _ _ hG hS
  have hc : (List.map (conc ι) [Value.int .i64 n]).toArray = #[.int .i64 n]:=by simp [conc]
  rw [hc]
  refine (h n w hp hT.1).mono ?_
  rintro e w' ⟨rfl,hb⟩
  exact ⟨ι,Ext.refl _ _,Nat.le_refl _,hS.stays hb,by simp [conc],by simp [Bd]⟩
 ·cases hq
theorem mark12 (n : Int) (w : World) (hr : rng n) (htab : Lib.TabIs Tryz.prog w "internal/strconv.uint64pow10" .u64 Lib.pow10Tab) :
  Calls Tryz.prog 13 #[.int .i64 n] w fun e w' => e = .returned (.string ⟨((33 :: Lib.itoa n)).toArray⟩)∧RowKit.Below w.heap.size w w':=by
 have h0:=hr.1
 have h1:=hr.2
 have hl:=Lib.itoa_length_le n h0 h1
 go_enter Tryz.func13,Tryz.ntmps13
 go_wp2_with (go_at_call 40;refine (itoa28 n h0 h1 _ htab).mono ?_;rintro e w' ⟨rfl,k,os,rfl⟩)
 go_ret
 refine ⟨?_,grow_below _ _ _ _ (Nat.le_refl _)⟩
 congr 2
theorem mark_ok {pr : Prot} {w0 : World} (hG : Tab pr w0) : SumOk Tryz.prog pr w0 0 13 (pureS (numQ markT)):=numS_ok hG mark12
theorem smM_ok : ∀ pr w0,Tab pr w0 → SmOk Tryz.prog E1 pr w0 smM:=fun pr w0 hG => withQ_ok (sm0_ok pr w0) (mark_ok hG)
end Go.Abs
end
section
namespace Go.Abs
open Go.Proofs
set_option maxRecDepth 100000
def oR (ds : List Deep) : List (Nat × AObj):=[(0,.ro ds)]
def tS17 (o len c2 k : Nat) : List (Nat × Value):=[(3,.slice (some ⟨0,o,none⟩) len c2),(4,.int .i64 k)]
theorem e27_0 (n : Nat) (m : Nat) (k : Nat) (vs : List Value) (r : List Value) (a : Int) (s : ByteArray) (d : ByteArray) (h0 : decide ((↑k : Int) < (↑m : Int)) = true) (h1 : decide ((↑k : Int) < (↑n : Int)) = true) (h2 : 0 ≤ (↑k : Int)∧(↑k : Int) < (↑n : Int)) (h3 : List.take 3 (List.drop (0 + Int.toNat (↑k : Int) * 3) vs) = [Value.int IntKind.i8 a,Value.string s,Value.string d]) (h4 : 0 ≤ (↑k : Int)∧(↑k : Int) < (↑m : Int)) (h5 : 0 + Int.toNat (↑k : Int) * 3 + 3 ≤ List.length r∧true = true) :
  Ran (codeO Tryz.prog E1 (smM) noRun 100 39 [0,0,1,0,1,1] (codeAt Tryz.f39 [0,0,1,0,1,1]) (mkFr 38 (tW n m k)) (mkHp 3 (oW n vs r)) [.skip 4,.b true,.skip 4,.b true,.skip 4,.sym,.l [Value.int IntKind.i8 a,Value.string s,Value.string d],.sym,.sym] True) (Exit.normal) 38 [(0,Value.chan (some 1)),(3,Value.slice (some (Addr.mk 2 0 none)) m (2 * m)),(4,Value.int IntKind.i64 (IntKind.wrap IntKind.i64 ((↑k : Int) + 1)))] [(0,AObj.rov vs),(1,AObj.word n 0),(2,AObj.cells (putAt r (0 + Int.toNat (↑k : Int) * 3) [Value.int IntKind.i8 a,Value.string s,Value.string d]) 0)] 3 :=
 cameF_of (O:=((((((True∧decide ((↑k : Int) < (↑m : Int)) = true)∧decide ((↑k : Int) < (↑n : Int)) = true)∧0 ≤ (↑k : Int)∧(↑k : Int) < (↑n : Int))∧List.take 3 (List.drop (0 + Int.toNat (↑k : Int) * 3) vs) = [Value.int IntKind.i8 a,Value.string s,Value.string d])∧0 ≤ (↑k : Int)∧(↑k : Int) < (↑m : Int))∧0 + Int.toNat (↑k : Int) * 3 + 3 ≤ List.length r∧true = true)) (by kernel_rfl) ⟨⟨⟨⟨⟨⟨trivial,h0⟩,h1⟩,h2⟩,h3⟩,h4⟩,h5⟩
theorem e27_1 (n : Nat) (m : Nat) (k : Nat) (vs : List Value) (r : List Value) (a : Int) (s : ByteArray) (d : ByteArray) (h0 : decide ((↑k : Int) < (↑m : Int)) = true) (h1 : decide ((↑k : Int) < (↑n : Int)) = false) (h2 : Int.NonNeg (IntKind.wrap IntKind.i64 (-3000000 - (↑k : Int)) - -9223372036854775808)∧Int.NonNeg (9223372036854775807 - IntKind.wrap IntKind.i64 (-3000000 - (↑k : Int)))) (h3 : 0 ≤ (↑k : Int)∧(↑k : Int) < (↑m : Int)) (h4 : 0 + Int.toNat (↑k : Int) * 3 + 3 ≤ List.length r∧true = true) :
  Ran (codeO Tryz.prog E1 (smM) noRun 100 39 [0,0,1,0,1,1] (codeAt Tryz.f39 [0,0,1,0,1,1]) (mkFr 38 (tW n m k)) (mkHp 3 (oW n vs r)) [.skip 4,.b true,.skip 4,.b false,.skip 7,.sym,.sym] True) (Exit.normal) 38 [(0,Value.chan (some 1)),(3,Value.slice (some (Addr.mk 2 0 none)) m (2 * m)),(4,Value.int IntKind.i64 (IntKind.wrap IntKind.i64 ((↑k : Int) + 1)))] [(0,AObj.rov vs),(1,AObj.word n 0),(2,AObj.cells (putAt r (0 + Int.toNat (↑k : Int) * 3) [Value.int IntKind.i8 0,Value.string (ByteArray.mk #[]),Value.string (ByteArray.mk (List.toArray (markT (IntKind.wrap IntKind.i64 (-3000000 - (↑k : Int))))))]) 0)] 3 :=
 cameF_of (O:=(((((True∧decide ((↑k : Int) < (↑m : Int)) = true)∧decide ((↑k : Int) < (↑n : Int)) = false)∧Int.NonNeg (IntKind.wrap IntKind.i64 (-3000000 - (↑k : Int)) - -9223372036854775808)∧Int.NonNeg (9223372036854775807 - IntKind.wrap IntKind.i64 (-3000000 - (↑k : Int))))∧0 ≤ (↑k : Int)∧(↑k : Int) < (↑m : Int))∧0 + Int.toNat (↑k : Int) * 3 + 3 ≤ List.length r∧true = true)) (by kernel_rfl) ⟨⟨⟨⟨⟨trivial,h0⟩,h1⟩,h2⟩,h3⟩,h4⟩
theorem e27_2 (n : Nat) (m : Nat) (k : Nat) (vs : List Value) (r : List Value) (a : Int) (s : ByteArray) (d : ByteArray) (h0 : decide ((↑k : Int) < (↑m : Int)) = false) :
  Ran (codeO Tryz.prog E1 (smM) noRun 100 39 [0,0,1,0,1,1] (codeAt Tryz.f39 [0,0,1,0,1,1]) (mkFr 38 (tW n m k)) (mkHp 3 (oW n vs r)) [.skip 4,.b false] True) (Exit.exit 0) 38 [(0,Value.chan (some 1)),(3,Value.slice (some (Addr.mk 2 0 none)) m (2 * m)),(4,Value.int IntKind.i64 (↑k : Int))] [(0,AObj.rov vs),(1,AObj.word n 0),(2,AObj.cells r 0)] 3 :=
 cameF_of (O:=(True∧decide ((↑k : Int) < (↑m : Int)) = false)) (by kernel_rfl) ⟨trivial,h0⟩
theorem e16_1 (n : Nat) (k : Nat) (vs : List Value) (us : List Value) (a : Int) (s : ByteArray) (d : ByteArray) (h0 : decide ((↑k : Int) < (↑n : Int)) = true) (h1 : 0 ≤ (↑k : Int)∧(↑k : Int) < (↑n : Int)) (h2 : List.take 3 (List.drop (0 + Int.toNat (↑k : Int) * 3) vs) = [Value.int IntKind.i8 a,Value.string s,Value.string d]) (h3 : List.take 3 (List.drop (0 + Int.toNat (↑k : Int) * 3) us) = [Value.int IntKind.i8 a,Value.string s,Value.string d]) (h4 : (!(a == a && (ByteArray.toList s == ByteArray.toList s && (ByteArray.toList d == ByteArray.toList d && true) && true))) = false) :
  Ran (codeO Tryz.prog E1 (sm0) noRun 100 26 [0,0,1,0,1,1] (codeAt Tryz.f26 [0,0,1,0,1,1]) (mkFr 26 (tE15 k)) (mkHp 4 (oE n vs us)) [.skip 4,.b true,.skip 2,.sym,.l [Value.int IntKind.i8 a,Value.string s,Value.string d],.skip 2,.sym,.l [Value.int IntKind.i8 a,Value.string s,Value.string d],.skip 1,.b false] True) (Exit.normal) 26 [(0,Value.chan (some 1)),(1,Value.chan (some 3)),(4,Value.bool false),(5,Value.int IntKind.i64 (IntKind.wrap IntKind.i64 ((↑k : Int) + 1)))] [(0,AObj.rov vs),(1,AObj.word n 0),(2,AObj.rov us),(3,AObj.word n 2)] 4 :=
 cameF_of (O:=(((((((True∧decide ((↑k : Int) < (↑n : Int)) = true)∧0 ≤ (↑k : Int)∧(↑k : Int) < (↑n : Int))∧List.take 3 (List.drop (0 + Int.toNat (↑k : Int) * 3) vs) = [Value.int IntKind.i8 a,Value.string s,Value.string d])∧0 ≤ (↑k : Int)∧(↑k : Int) < (↑n : Int))∧List.take 3 (List.drop (0 + Int.toNat (↑k : Int) * 3) us) = [Value.int IntKind.i8 a,Value.string s,Value.string d])∧True∧True∧True∧True∧True∧True∧True∧True∧True∧True)∧(!(a == a && (ByteArray.toList s == ByteArray.toList s && (ByteArray.toList d == ByteArray.toList d && true) && true))) = false)) (by kernel_rfl) ⟨⟨⟨⟨⟨⟨⟨trivial,h0⟩,h1⟩,h2⟩,h1⟩,h3⟩,⟨trivial,⟨trivial,⟨trivial,⟨trivial,⟨trivial,⟨trivial,⟨trivial,⟨trivial,⟨trivial,trivial⟩⟩⟩⟩⟩⟩⟩⟩⟩⟩,h4⟩
theorem e16_2 (n : Nat) (k : Nat) (vs : List Value) (us : List Value) (a : Int) (s : ByteArray) (d : ByteArray) (h0 : decide ((↑k : Int) < (↑n : Int)) = false) :
  Ran (codeO Tryz.prog E1 (sm0) noRun 100 26 [0,0,1,0,1,1] (codeAt Tryz.f26 [0,0,1,0,1,1]) (mkFr 26 (tE15 k)) (mkHp 4 (oE n vs us)) [.skip 4,.b false] True) (Exit.exit 0) 26 [(0,Value.chan (some 1)),(1,Value.chan (some 3)),(4,Value.bool false),(5,Value.int IntKind.i64 (↑k : Int))] [(0,AObj.rov vs),(1,AObj.word n 0),(2,AObj.rov us),(3,AObj.word n 2)] 4 :=
 cameF_of (O:=(True∧decide ((↑k : Int) < (↑n : Int)) = false)) (by kernel_rfl) ⟨trivial,h0⟩
theorem e17_1 (o : Nat) (len : Nat) (c2 : Nat) (k : Nat) (ds : List Deep) (x : Int) (h0 : decide ((↑k : Int) < (↑len : Int)) = true) (h1 : 0 ≤ (↑k : Int)∧(↑k : Int) < (↑len : Int)) (h2 : ds[o + Int.toNat (↑k : Int) * 1]? = some (Deep.val (Value.int IntKind.u8 x))) (h3 : (x != IntKind.wrap IntKind.u8 (IntKind.wrap IntKind.i64 (170 + Int.tmod (↑k : Int) 5))) = false) :
  Ran (codeO Tryz.prog E1 (sm0) noRun 100 27 [0,0,1,0,1,1] (codeAt Tryz.f27 [0,0,1,0,1,1]) (mkFr 27 (tS17 o len c2 k)) (mkHp 1 (oR ds)) [.skip 4,.b true,.skip 2,.sym,.dp [Deep.val (Value.int IntKind.u8 x)],.skip 5,.b false] True) (Exit.normal) 27 [(3,Value.slice (some (Addr.mk 0 o none)) len c2),(4,Value.int IntKind.i64 (IntKind.wrap IntKind.i64 ((↑k : Int) + 1)))] [(0,AObj.ro ds)] 1 :=
 cameF_of (O:=((((True∧decide ((↑k : Int) < (↑len : Int)) = true)∧0 ≤ (↑k : Int)∧(↑k : Int) < (↑len : Int))∧ds[o + Int.toNat (↑k : Int) * 1]? = some (Deep.val (Value.int IntKind.u8 x)))∧(x != IntKind.wrap IntKind.u8 (IntKind.wrap IntKind.i64 (170 + Int.tmod (↑k : Int) 5))) = false)) (by kernel_rfl) ⟨⟨⟨⟨trivial,h0⟩,h1⟩,h2⟩,h3⟩
theorem e17_2 (o : Nat) (len : Nat) (c2 : Nat) (k : Nat) (ds : List Deep) (x : Int) (h0 : decide ((↑k : Int) < (↑len : Int)) = false) :
  Ran (codeO Tryz.prog E1 (sm0) noRun 100 27 [0,0,1,0,1,1] (codeAt Tryz.f27 [0,0,1,0,1,1]) (mkFr 27 (tS17 o len c2 k)) (mkHp 1 (oR ds)) [.skip 4,.b false] True) (Exit.exit 0) 27 [(3,Value.slice (some (Addr.mk 0 o none)) len c2),(4,Value.int IntKind.i64 (↑k : Int))] [(0,AObj.ro ds)] 1 :=
 cameF_of (O:=(True∧decide ((↑k : Int) < (↑len : Int)) = false)) (by kernel_rfl) ⟨trivial,h0⟩
theorem e18_1 (o : Nat) (len : Nat) (c2 : Nat) (k : Nat) (ds : List Deep) (s : ByteArray) (h0 : decide ((↑k : Int) < (↑len : Int)) = true) (h1 : 0 ≤ (↑k : Int)∧(↑k : Int) < (↑len : Int)) (h2 : ds[o + Int.toNat (↑k : Int) * 3 + 1 + 1]? = some (Deep.val (Value.string s))) (h3 : Int.NonNeg (IntKind.wrap IntKind.i64 (-3000000 - (↑k : Int)) - -9223372036854775808)∧Int.NonNeg (9223372036854775807 - IntKind.wrap IntKind.i64 (-3000000 - (↑k : Int)))) (h4 : (!ByteArray.toList s == ByteArray.toList (ByteArray.mk (List.toArray (markT (IntKind.wrap IntKind.i64 (-3000000 - (↑k : Int))))))) = false) :
  Ran (codeO Tryz.prog E1 (smM) noRun 100 28 [0,0,1,0,1,1] (codeAt Tryz.f28 [0,0,1,0,1,1]) (mkFr 29 (tS17 o len c2 k)) (mkHp 1 (oR ds)) [.skip 4,.b true,.dp [],.skip 2,.sym,.skip 2,.dp [Deep.val (Value.string s)],.skip 5,.b false] True) (Exit.normal) 29 [(3,Value.slice (some (Addr.mk 0 o none)) len c2),(4,Value.int IntKind.i64 (IntKind.wrap IntKind.i64 ((↑k : Int) + 1)))] [(0,AObj.ro ds)] 1 :=
 cameF_of (O:=(((((True∧decide ((↑k : Int) < (↑len : Int)) = true)∧0 ≤ (↑k : Int)∧(↑k : Int) < (↑len : Int))∧ds[o + Int.toNat (↑k : Int) * 3 + 1 + 1]? = some (Deep.val (Value.string s)))∧Int.NonNeg (IntKind.wrap IntKind.i64 (-3000000 - (↑k : Int)) - -9223372036854775808)∧Int.NonNeg (9223372036854775807 - IntKind.wrap IntKind.i64 (-3000000 - (↑k : Int))))∧(!ByteArray.toList s == ByteArray.toList (ByteArray.mk (List.toArray (markT (IntKind.wrap IntKind.i64 (-3000000 - (↑k : Int))))))) = false)) (by kernel_rfl) ⟨⟨⟨⟨⟨trivial,h0⟩,h1⟩,h2⟩,h3⟩,h4⟩
theorem e18_2 (o : Nat) (len : Nat) (c2 : Nat) (k : Nat) (ds : List Deep) (s : ByteArray) (h0 : decide ((↑k : Int) < (↑len : Int)) = false) :
  Ran (codeO Tryz.prog E1 (smM) noRun 100 28 [0,0,1,0,1,1] (codeAt Tryz.f28 [0,0,1,0,1,1]) (mkFr 29 (tS17 o len c2 k)) (mkHp 1 (oR ds)) [.skip 4,.b false] True) (Exit.exit 0) 29 [(3,Value.slice (some (Addr.mk 0 o none)) len c2),(4,Value.int IntKind.i64 (↑k : Int))] [(0,AObj.ro ds)] 1 :=
 cameF_of (O:=(True∧decide ((↑k : Int) < (↑len : Int)) = false)) (by kernel_rfl) ⟨trivial,h0⟩
abbrev Ent:=Int × ByteArray × ByteArray
def cellA (a : Ent) : List Value:=[.int .i8 a.1,.string a.2.1,.string a.2.2]
def av (es : List Ent) : List Value:=rows (fun j => cellA (es.getD j (0,⟨#[]⟩,⟨#[]⟩))) es.length
def zeroA3 : List Value:=[.int .i8 0,.string ⟨#[]⟩,.string ⟨#[]⟩]
def markA (j : Nat) : List Value:=[.int .i8 0,.string ⟨#[]⟩,.string ⟨(markT (IntKind.i64.wrap (-3000000 - (j : Int)))).toArray⟩]
def cell27 (es : List Ent) (j : Nat) : List Value:=match es[j]? with
 | some a => cellA a
 | none => markA j
def row27 (es : List Ent) (m : Nat) : List Value:=rows (cell27 es) m
noncomputable def q27 (n m : Nat) (vs r : List Value) : Sm:=withL smM 39 [1,0,1,1] (piece 38 (tW n m 0) (oW n vs (copies [.int .i8 0,.string ⟨#[]⟩,.string ⟨#[]⟩] m)) 3 .normal (mkFr 38 [(0,.chan (some 1)),(3,.slice (some ⟨2,0,none⟩) m (2 * m))]) (mkHp 3 (oW n vs r)))
def q16 (n : Nat) (vs us : List Value) : Sm:=withL sm0 26 [1,0,1,1] (piece 26 (tE15 0) (oE n vs us) 4 .normal (mkFr 26 [(4,.bool false)]) (mkHp 4 (oE n vs us)))
def q17 (o n cap : Nat) (ds : List Deep) : Sm:=withL sm0 27 [1,0,1,1] (piece 27 (tS17 (o + 0 * 1) (Int.toNat (IntKind.i64.wrap ((n : Int) + 64)) - 0) (cap - 2 * 0) n) (oR ds) 1 .normal (mkFr 27 []) (mkHp 1 (oR ds)))
noncomputable def q18 (o n cap : Nat) (ds : List Deep) : Sm:=withL smM 28 [1,0,1,1] (piece 29 (tS17 (o + 0 * 3) (Int.toNat (IntKind.i64.wrap ((n : Int) + 64)) - 0) (cap - 2 * 0) n) (oR ds) 1 .normal (mkFr 29 []) (mkHp 1 (oR ds)))
theorem c27_came (n : Nat) (m : Nat) (vs : List Value) (r : List Value) (h0 : IntKind.wrap .i64 ((↑n : Int) + 64) = (↑m : Int)∧IntKind.wrap .i64 ((↑n : Int) + 64) = (↑m : Int)∧40 * m ≤ 281474976710656∧m ≤ 9223372036854775807) (h1 : 0 ≤ (↑n : Int)) (h2 : (↑n : Int) ≤ (↑(capOf (2 * m)) : Int)) (h3 : 0 ≤ capOf (2 * m)) (h4 : 0 ≠ capOf (2 * m)) :
  RanC (runO Tryz.prog E1 (q27 n m vs r) noRun 100 39 [Value.chan (some 1)] (mkHp 2 (wordsOs [Wd.v vs n] 0 fun n => n)) [.skip 4,.mk m,.skip 5,.sym] True) (.returned (Value.slice (some ⟨2,0,none⟩) n (2 * m - 0))) [(0,AObj.rov vs),(1,AObj.word n 0),(2,AObj.cells r 0)] 3 :=
 cameCF_of (O:=(((True∧IntKind.wrap .i64 ((↑n : Int) + 64) = (↑m : Int)∧IntKind.wrap .i64 ((↑n : Int) + 64) = (↑m : Int)∧40 * m ≤ 281474976710656∧m ≤ 9223372036854775807)∧SelfP 38 (tW n m 0) (oW n vs (copies [Value.int .i8 0,Value.string (ByteArray.mk #[]),Value.string (ByteArray.mk #[])] m)) 3)∧((0 ≤ (↑n : Int)∧(↑n : Int) ≤ (↑(capOf (2 * m)) : Int))∧True∧0 ≤ capOf (2 * m))∧0 ≠ capOf (2 * m))) (by kernel_rfl) ⟨⟨⟨trivial,h0⟩,selfP_true _ _ _ _⟩,⟨⟨⟨h1,h2⟩,⟨trivial,h3⟩⟩,h4⟩⟩
theorem c16_came (n : Nat) (vs : List Value) (us : List Value) (h0 : ((↑n : Int) != (↑n : Int)) = false) :
  RanC (runO Tryz.prog E1 (q16 n vs us) noRun 100 26 [Value.chan (some 1),Value.chan (some 3)] (mkHp 4 (wordsOs [Wd.v vs n,Wd.v us n] 0 fun n => n)) [.skip 6,.b false] True) (.returned (Value.bool true)) [(0,AObj.rov vs),(1,AObj.word n 0),(2,AObj.rov us),(3,AObj.word n 2)] 4 :=
 cameCF_of (O:=((True∧((↑n : Int) != (↑n : Int)) = false)∧SelfP 26 (tE15 0) (oE n vs us) 4)) (by kernel_rfl) ⟨⟨trivial,h0⟩,selfP_true _ _ _ _⟩
theorem c17_came (o : Nat) (n : Nat) (cap : Nat) (ds : List Deep) (h0 : 0 ≤ IntKind.wrap .i64 ((↑n : Int) + 64)) (h1 : IntKind.wrap .i64 ((↑n : Int) + 64) ≤ (↑(capOf cap) : Int)) (h2 : 0 ≤ capOf cap) (h3 : 0 ≠ capOf cap) :
  RanC (runO Tryz.prog E1 (q17 o n cap ds) noRun 100 27 [Value.slice (some ⟨0,o,none⟩) n cap] (mkHp 1 (oR ds)) [.skip 5,.sym] True) (.returned (Value.bool true)) [(0,AObj.ro ds)] 1 :=
 cameCF_of (O:=((True∧((0 ≤ IntKind.wrap .i64 ((↑n : Int) + 64)∧IntKind.wrap .i64 ((↑n : Int) + 64) ≤ (↑(capOf cap) : Int))∧True∧0 ≤ capOf cap)∧0 ≠ capOf cap)∧SelfP 27 (tS17 (o + 0 * 1) (Int.toNat (IntKind.wrap .i64 ((↑n : Int) + 64)) - 0) (cap - 2 * 0) n) (oR ds) 1)) (by kernel_rfl) ⟨⟨trivial,⟨⟨⟨h0,h1⟩,⟨trivial,h2⟩⟩,h3⟩⟩,selfP_true _ _ _ _⟩
theorem c18_came (o : Nat) (n : Nat) (cap : Nat) (ds : List Deep) (h0 : 0 ≤ IntKind.wrap .i64 ((↑n : Int) + 64)) (h1 : IntKind.wrap .i64 ((↑n : Int) + 64) ≤ (↑(capOf cap) : Int)) (h2 : 0 ≤ capOf cap) (h3 : 0 ≠ capOf cap) :
  RanC (runO Tryz.prog E1 (q18 o n cap ds) noRun 100 28 [Value.slice (some ⟨0,o,none⟩) n cap] (mkHp 1 (oR ds)) [.skip 5,.sym] True) (.returned (Value.bool true)) [(0,AObj.ro ds)] 1 :=
 cameCF_of (O:=((True∧((0 ≤ IntKind.wrap .i64 ((↑n : Int) + 64)∧IntKind.wrap .i64 ((↑n : Int) + 64) ≤ (↑(capOf cap) : Int))∧True∧0 ≤ capOf cap)∧0 ≠ capOf cap)∧SelfP 29 (tS17 (o + 0 * 3) (Int.toNat (IntKind.wrap .i64 ((↑n : Int) + 64)) - 0) (cap - 2 * 0) n) (oR ds) 1)) (by kernel_rfl) ⟨⟨trivial,⟨⟨⟨h0,h1⟩,⟨trivial,h2⟩⟩,h3⟩⟩,selfP_true _ _ _ _⟩
theorem av_len (es : List Ent) : (av es).length = es.length * 3:=rows_length (s:=3) fun _ _ => rfl
theorem av_get {es : List Ent} {k : Nat} (h : k < es.length) : List.take 3 (List.drop (0 + k * 3) (av es)) = cellA (es[k]):=by
 rw [Nat.zero_add,av,rows_at (s:=3) (fun _ _ => rfl) h,List.getD_eq_getElem?_getD,List.getElem?_eq_getElem h];rfl
theorem rng_wrap (x : Int) : rng (IntKind.i64.wrap x):=by
 have h1 : (2 : Int) ^ IntKind.i64.bits = 18446744073709551616:=by decide
 have h2 : (2 : Int) ^ (IntKind.i64.bits - 1) = 9223372036854775808:=by decide
 unfold rng IntKind.wrap
 rw [h1,h2]
 have hs : IntKind.i64.signed = true:=rfl
 simp only [hs,Bool.true_and]
 split
 ·rename_i h
  simp at h
  omega
 ·rename_i h
  simp at h
  omega
theorem rng_mark {k : Nat} : rng (IntKind.i64.wrap (-3000000 - (k : Int))):=rng_wrap _
theorem cell27_len (es : List Ent) (j : Nat) : (cell27 es j).length = 3:=by
 unfold cell27
 split <;> rfl
theorem row27_plain (es : List Ent) (m : Nat) : PlainC (row27 es m):=by
 intro v hv
 obtain ⟨j,_,hj⟩:=rows_mem hv
 simp only [cell27] at hj
 split at hj
 ·simp [cellA] at hj
  rcases hj with rfl | rfl | rfl <;> exact ⟨fun N => by simp,fun σ => by simp [upV]⟩
 ·simp [markA] at hj
  rcases hj with rfl | rfl | rfl <;> exact ⟨fun N => by simp,fun σ => by simp [upV]⟩
def K27 (es : List Ent) : ConW:=⟨fun X => [X 0],[.v (av es) es.length],fun σ => .slice (some ⟨σ 2,0,none⟩) es.length (2 * (es.length + 64)),fun _ => [.cells (row27 es (es.length + 64)) 0]⟩
theorem con27 {es : List Ent} (hsm : es.length < 1099511627776) : ConWG Tab Tryz.prog 39 (K27 es):=by
 have hw : IntKind.i64.wrap ((es.length : Int) + 64) = ((es.length + 64 : Nat) : Int):=by
  rw [i64_small (by omega) (by omega)];omega
 have hbo : ∀ k,∀ p ∈ oW es.length (av es) (fill (cell27 es) (fun _ => zeroA3) (es.length + 64) k),p.1 < 3∧BdO 3 p.2:=by
  intro k p hp
  simp only [oW,List.mem_cons,List.not_mem_nil,or_false] at hp
  rcases hp with rfl | rfl | rfl
  ·exact ⟨by simp,trivial⟩
  ·exact ⟨by simp,by simp [BdO]⟩
  ·refine ⟨by simp,?_⟩
   intro v hv
   obtain ⟨j,hj0,hj⟩:=rows_mem hv
   simp only at hj
   split at hj
   ·exact (row27_plain es (j + 1) v (by rw [row27,rows_succ];exact List.mem_append_right _ hj)).1 _
   ·simp [zeroA3] at hj;rcases hj with rfl | rfl | rfl <;> simp
 have hF : ∀ k ts,(∀ p ∈ ts,Bd 3 p.2) → smallN ts = true → Fits 3 ts (oW es.length (av es) (fill (cell27 es) (fun _ => zeroA3) (es.length + 64) k)) 3:=fun k ts h1 h2 => ⟨h2,rfl,h1,hbo k,by decide,by decide⟩
 have hcop : copies [Value.int .i8 0,.string ⟨#[]⟩,.string ⟨#[]⟩] (es.length + 64) = fill (cell27 es) (fun _ => zeroA3) (es.length + 64) 0:=by rw [copies_rows,fill_zero];rfl
 have hful : row27 es (es.length + 64) = fill (cell27 es) (fun _ => zeroA3) (es.length + 64) (es.length + 64):=by rw [fill_full];rfl
 have hcap : capOf (2 * (es.length + 64)) = es.length + 64:=by simp [capOf]
 refine conW_run hP1 (s:=q27 es.length (es.length + 64) (av es) (row27 es (es.length + 64))) (fun pr w0 hG => withL_ok (smM_ok pr w0 hG) (fn:=Tryz.f39) (c:=.block 0 (.loop (codeAt Tryz.f39 [0,0,1,0,1,1]))) (by kernel_rfl) (by kernel_rfl) (block_end (by rw [hcop];exact hF 0 _ (by simp [tW]) rfl) ?_))
  (c27_came es.length (es.length + 64) (av es) (row27 es (es.length + 64)) ⟨hw,hw,by omega,by omega⟩ (by omega) (by rw [hcap];omega) (by omega) (by rw [hcap];omega)) (by simp [K27,limit]) ⟨rfl,rfl,by simp,by rw [hful];exact fun p hp => hbo _ p hp,by decide,(by decide : 2 ≤ 3)⟩ (by simp [K27]) (by simp [K27]) (by intro ι ι' f g h;simp [K27,h 0 (by simp [K27])]) (by intro σ;simp [K27,upV]) (by intro σ;simp [K27,upO,(row27_plain _ _).map]) rfl ?_
 ·rw [hcop,hful]
  have hh : Here E1 39 [0,0,1,0,1,1] (codeAt Tryz.f39 [0,0,1,0,1,1]):=codeAt_here (fn:=Tryz.f39) (by kernel_rfl) (by kernel_rfl)
  refine rounds_tri (T:={ k : Nat // k ≤ es.length + 64 }) ⟨38,fun t => tW es.length (es.length + 64) t.1,fun t => oW es.length (av es) (fill (cell27 es) (fun _ => zeroA3) (es.length + 64) t.1),fun _ => 3,fun t => es.length + 64 - t.1⟩ ?_ ⟨0,Nat.zero_le _⟩
  rintro ⟨k,hk⟩
  have hlen : (fill (cell27 es) (fun _ => zeroA3) (es.length + 64) k).length = (es.length + 64) * 3:=by
   rw [fill_length (s:=3) (fun _ _ => cell27_len _ _) (fun _ _ => rfl)]
  have hk0 : 0 + Int.toNat (k : Int) * 3 = k * 3:=by simp
  by_cases hlt : k < es.length + 64
  ·have hput:=fill_put (g:=cell27 es) (z:=fun _ => zeroA3) (s:=3) (m:=es.length + 64) (k:=k) (fun _ _ => cell27_len _ _) (fun _ _ => rfl) hlt
   have hk1:=i64_succ (k:=k) (by omega)
   by_cases hkn : k < es.length
   ·have hek : es[k]? = some es[k]:=List.getElem?_eq_getElem hkn
    have hc:=e27_0 es.length (es.length + 64) k (av es) (fill (cell27 es) (fun _ => zeroA3) (es.length + 64) k) es[k].1 es[k].2.1 es[k].2.2 (by simp;omega) (by simp;omega) (by omega) (av_get hkn) (by omega) ⟨by rw [hk0,hlen];omega,rfl⟩
    rw [hk0,hk1] at hc
    have hcell : [Value.int .i8 es[k].1,.string es[k].2.1,.string es[k].2.2] = cell27 es k:=by simp only [cell27,hek,cellA]
    rw [hcell,hput] at hc
    exact on_came hP1 (smM_ok pr w0 hG) hh hc ⟨k + 1,hlt⟩ rfl rfl rfl (by simp only;omega) (hF _ _ (by simp [tW]) rfl)
   ·have hek : es[k]? = none:=List.getElem?_eq_none (by omega)
    have hc:=e27_1 es.length (es.length + 64) k (av es) (fill (cell27 es) (fun _ => zeroA3) (es.length + 64) k) 0 ⟨#[]⟩ ⟨#[]⟩ (by simp;omega) (by simp;omega) rng_mark (by omega) ⟨by rw [hk0,hlen];omega,rfl⟩
    rw [hk0,hk1] at hc
    have hcell : [Value.int .i8 0,.string ⟨#[]⟩,.string ⟨(markT (IntKind.i64.wrap (-3000000 - (k : Int)))).toArray⟩] = cell27 es k:=by simp only [cell27,hek,markA]
    rw [hcell,hput] at hc
    exact on_came hP1 (smM_ok pr w0 hG) hh hc ⟨k + 1,hlt⟩ rfl rfl rfl (by simp only;omega) (hF _ _ (by simp [tW]) rfl)
  ·have hk' : k = es.length + 64:=by omega
   subst hk'
   have hc:=cut_came (e27_2 es.length (es.length + 64) (es.length + 64) (av es) (fill (cell27 es) (fun _ => zeroA3) (es.length + 64) (es.length + 64)) 0 ⟨#[]⟩ ⟨#[]⟩ (by simp)) (ts':=[(0,.chan (some 1)),(3,.slice (some ⟨2,0,none⟩) (es.length + 64) (2 * (es.length + 64)))]) (by simp)
   exact out_came hP1 (smM_ok pr w0 hG) hh hc (by simp) (by simp) (hF _ _ (by simp) rfl) ⟨rfl,rfl,rfl⟩
 ·intro j o' hj
  match j,hj with
  | 0,hj => exact hj
  | j + 1,hj => simp [K27] at hj
def K16 (es : List Ent) : ConW:=⟨fun X => [X 0,X 1],[.v (av es) es.length,.v (av es) es.length],fun _ => .bool true,fun _ => []⟩
theorem con16 {G : Prot → World → Prop} {es : List Ent} (hsm : es.length < 9223372036854775807) : ConWG G Tryz.prog 26 (K16 es):=by
 have hF : ∀ ts,(∀ p ∈ ts,Bd 4 p.2) → smallN ts = true → Fits 4 ts (oE es.length (av es) (av es)) 4:=fun ts h1 h2 => ⟨h2,rfl,h1,by simp [oE,BdO],by decide,by decide⟩
 refine conW_read hP1 (s:=q16 es.length (av es) (av es)) (fun pr w0 _ => withL_ok (sm0_ok pr w0) (fn:=Tryz.f26) (c:=.block 0 (.loop (codeAt Tryz.f26 [0,0,1,0,1,1]))) (by kernel_rfl) (by kernel_rfl) (block_end (hF _ (by simp [tE15]) rfl) ?_)) (c16_came es.length (av es) (av es) (by simp)) (by simp [limit]) (hF _ (by simp) rfl) (by simp) (pure_bool _) (by intro ι ι' f g h;simp [h 0 (by simp),h 1 (by simp)]) (by intro σ;simp [upV])
 have hh : Here E1 26 [0,0,1,0,1,1] (codeAt Tryz.f26 [0,0,1,0,1,1]):=codeAt_here (fn:=Tryz.f26) (by kernel_rfl) (by kernel_rfl)
 refine rounds_tri (T:={ k : Nat // k ≤ es.length }) ⟨26,fun t => tE15 t.1,fun _ => oE es.length (av es) (av es),fun _ => 4,fun t => es.length - t.1⟩ ?_ ⟨0,Nat.zero_le _⟩
 rintro ⟨k,hk⟩
 by_cases hlt : k < es.length
 ·refine on_came hP1 (sm0_ok pr w0) hh (e16_1 es.length k (av es) (av es) es[k].1 es[k].2.1 es[k].2.2 (by simp;omega) (by omega) (av_get hlt) (av_get hlt) (by simp)) ⟨k + 1,hlt⟩ ?_ rfl rfl (by simp only;omega) (hF _ (by simp [tE15]) rfl)
  rw [i64_succ (by omega)];rfl
 ·have hc:=cut_came (e16_2 es.length k (av es) (av es) 0 ⟨#[]⟩ ⟨#[]⟩ (by simp;omega)) (ts':=[(4,.bool false)]) (by simp)
  exact out_came hP1 (sm0_ok pr w0) hh hc (by simp) (by simp) (hF _ (by simp) rfl) ⟨rfl,rfl,rfl⟩
theorem con17 {o n cap : Nat} {ds : List Deep} (hvs : ∀ k,n ≤ k → k < n + 64 → ds[o + k]? = some (.val (.int .u8 (mkB k)))) (hlen : n + 64 < 9223372036854775807) (hcap : n + 64 ≤ capOf cap) :
  ConOk Tryz.prog 27 ⟨fun σ => [.slice (some ⟨σ 0,o,none⟩) n cap],oR ds,1,fun _ => .bool true,fun _ => []⟩:=by
 have hF : ∀ ts,(∀ p ∈ ts,Bd 1 p.2) → smallN ts = true → Fits 1 ts (oR ds) 1:=fun ts h1 h2 => ⟨h2,rfl,h1,by simp [oR,BdO],by decide,by decide⟩
 have hw : IntKind.i64.wrap ((n : Int) + 64) = ((n + 64 : Nat) : Int):=by
  rw [i64_small (by omega) (by omega)];omega
 have hw' : (Int.toNat (IntKind.i64.wrap ((n : Int) + 64)) - 0) = n + 64:=by rw [hw];omega
 refine con_read hP1 (s:=q17 o n cap ds) (fun pr w0 => withL_ok (sm0_ok pr w0) (fn:=Tryz.f27) (c:=.block 0 (.loop (codeAt Tryz.f27 [0,0,1,0,1,1]))) (by kernel_rfl) (by kernel_rfl) (block_end (hF _ (by simp [tS17]) rfl) ?_)) (c17_came o n cap ds (by rw [hw];omega) (by rw [hw];omega) (by omega) (by omega)) (hF _ (by simp) rfl) (hF _ (by simp) rfl) (by simp) (by simp) (by intro σ;simp [upV]) (by intro σ;simp [upV])
 rw [hw']
 have hh : Here E1 27 [0,0,1,0,1,1] (codeAt Tryz.f27 [0,0,1,0,1,1]):=codeAt_here (fn:=Tryz.f27) (by kernel_rfl) (by kernel_rfl)
 refine rounds_tri (T:={ k : Nat // n ≤ k∧k ≤ n + 64 }) ⟨27,fun t => tS17 (o + 0 * 1) (n + 64) (cap - 2 * 0) t.1,fun _ => oR ds,fun _ => 1,fun t => n + 64 - t.1⟩ ?_ ⟨n,Nat.le_refl _,by omega⟩
 rintro ⟨k,hk1,hk⟩
 by_cases hlt : k < n + 64
 ·refine on_came hP1 (sm0_ok pr w0) hh (e17_1 (o + 0 * 1) (n + 64) (cap - 2 * 0) k ds (mkB k) (by simp;omega) (by omega) (by have:=hvs k hk1 hlt;rw [Nat.zero_mul,Nat.add_zero,Nat.mul_one];exact this) (by simp [mkB])) ⟨k + 1,by omega,by omega⟩ ?_ rfl rfl (by simp only;omega) (hF _ (by simp [tS17]) rfl)
  rw [i64_succ (by omega)];rfl
 ·have hc:=cut_came (e17_2 (o + 0 * 1) (n + 64) (cap - 2 * 0) k ds 0 (by simp;omega)) (ts':=[]) (by simp)
  exact out_came hP1 (sm0_ok pr w0) hh hc (by simp) (by simp) (hF _ (by simp) rfl) ⟨rfl,rfl,rfl⟩
theorem con18 {o n cap : Nat} {ds : List Deep} (hvs : ∀ k,n ≤ k → k < n + 64 → ds[o + k * 3 + 1 + 1]? = some (.val (.string ⟨(markT (IntKind.i64.wrap (-3000000 - (k : Int)))).toArray⟩))) (hlen : n < 1099511627776) (hcap : n + 64 ≤ capOf cap) :
  ConG Tab Tryz.prog 28 ⟨fun σ => [.slice (some ⟨σ 0,o,none⟩) n cap],oR ds,1,fun _ => .bool true,fun _ => []⟩:=by
 have hF : ∀ ts,(∀ p ∈ ts,Bd 1 p.2) → smallN ts = true → Fits 1 ts (oR ds) 1:=fun ts h1 h2 => ⟨h2,rfl,h1,by simp [oR,BdO],by decide,by decide⟩
 have hw : IntKind.i64.wrap ((n : Int) + 64) = ((n + 64 : Nat) : Int):=by
  rw [i64_small (by omega) (by omega)];omega
 have hw' : (Int.toNat (IntKind.i64.wrap ((n : Int) + 64)) - 0) = n + 64:=by rw [hw];omega
 refine conG_read hP1 (s:=q18 o n cap ds) (fun pr w0 hG => withL_ok (smM_ok pr w0 hG) (fn:=Tryz.f28) (c:=.block 0 (.loop (codeAt Tryz.f28 [0,0,1,0,1,1]))) (by kernel_rfl) (by kernel_rfl) (block_end (hF _ (by simp [tS17]) rfl) ?_)) (c18_came o n cap ds (by rw [hw];omega) (by rw [hw];omega) (by omega) (by omega)) (hF _ (by simp) rfl) (hF _ (by simp) rfl) (by simp) (by simp) (by intro σ;simp [upV]) (by intro σ;simp [upV])
 rw [hw']
 have hh : Here E1 28 [0,0,1,0,1,1] (codeAt Tryz.f28 [0,0,1,0,1,1]):=codeAt_here (fn:=Tryz.f28) (by kernel_rfl) (by kernel_rfl)
 refine rounds_tri (T:={ k : Nat // n ≤ k∧k ≤ n + 64 }) ⟨29,fun t => tS17 (o + 0 * 3) (n + 64) (cap - 2 * 0) t.1,fun _ => oR ds,fun _ => 1,fun t => n + 64 - t.1⟩ ?_ ⟨n,Nat.le_refl _,by omega⟩
 rintro ⟨k,hk1,hk⟩
 by_cases hlt : k < n + 64
 ·refine on_came hP1 (smM_ok pr w0 hG) hh (e18_1 (o + 0 * 3) (n + 64) (cap - 2 * 0) k ds ⟨(markT (IntKind.i64.wrap (-3000000 - (k : Int)))).toArray⟩ (by simp;omega) (by omega) (by have:=hvs k hk1 hlt;rw [Nat.zero_mul,Nat.add_zero];exact this) rng_mark (by simp)) ⟨k + 1,by omega,by omega⟩ ?_ rfl rfl (by simp only;omega) (hF _ (by simp [tS17]) rfl)
  rw [i64_succ (by omega)];rfl
 ·have hc:=cut_came (e18_2 (o + 0 * 3) (n + 64) (cap - 2 * 0) k ds ⟨#[]⟩ (by simp;omega)) (ts':=[]) (by simp)
  exact out_came hP1 (smM_ok pr w0 hG) hh hc (by simp) (by simp) (hF _ (by simp) rfl) ⟨rfl,rfl,rfl⟩
end Go.Abs
end
section
namespace Go.Abs
open Go.Proofs
set_option maxRecDepth 100000
def nodeV (nm : ByteArray) (d a : Value) (x : Nat → Int) : List Value:=[.string nm,d,a,.int .u32 (x 0),.int .u32 (x 1),.int .u32 (x 2),.int .u32 (x 3),.int .u32 (x 4),.int .u32 (x 5),.int .i32 (x 6),.int .i32 (x 7),.int .i32 (x 8),.int .i64 (x 9),.int .i64 (x 10),.int .i64 (x 11),.int .i32 (x 12)]
def pk26 (bs : List Int) : SumO:=fun args μ => viewW args ⟨fun X => [X 0],[.v (bv bs) bs.length],fun σ => .slice (some ⟨σ 2,0,none⟩) bs.length (2 * (bs.length + 64)),fun _ => [.cells (row26 bs (bs.length + 64)) 0]⟩ args μ
def pk27 (es : List Ent) : SumO:=fun args μ => viewW args ⟨fun X => [X 0],[.v (av es) es.length],fun σ => .slice (some ⟨σ 2,0,none⟩) es.length (2 * (es.length + 64)),fun _ => [.cells (row27 es (es.length + 64)) 0]⟩ args μ
def s11 (bs : List Int) (es : List Ent) : Sm:=withS (withS sm0 38 (pk26 bs)) 39 (pk27 es)
theorem c11_came (bs : List Int) (es : List Ent) (nm : ByteArray) (x : Nat → Int)  :
  RanC (runO Tryz.prog E1 (s11 bs es) noRun 100 12 [Value.agg (Array.mk (nodeV nm (Value.chan (some 1)) (Value.chan (some 3)) x))] (mkHp 4 (wordsOs [Wd.v (bv bs) (List.length bs),Wd.v (av es) (List.length es)] 0 fun n => n)) [] True) (.returned (Value.agg (Array.mk [Value.string nm,Value.slice (some ⟨8,0,none⟩) (List.length bs) (2 * (List.length bs + 64)),Value.slice (some ⟨11,0,none⟩) (List.length es) (2 * (List.length es + 64)),Value.int .u32 (x 0),Value.int .u32 (x 1),Value.int .u32 (x 2),Value.int .u32 (x 3),Value.int .u32 (x 4),Value.int .u32 (x 5),Value.int .i32 (x 6),Value.int .i32 (x 7),Value.int .i32 (x 8),Value.int .i64 (x 9),Value.int .i64 (x 10),Value.int .i64 (x 11),Value.int .i32 (x 12)]))) [(0,AObj.rov (bv bs)),(1,AObj.word (List.length bs) 0),(2,AObj.rov (av es)),(3,AObj.word (List.length es) 2),(4,AObj.cells [Value.string nm,Value.slice (some ⟨8,0,none⟩) (List.length bs) (2 * (List.length bs + 64)),Value.slice (some ⟨11,0,none⟩) (List.length es) (2 * (List.length es + 64)),Value.int .u32 (x 0),Value.int .u32 (x 1),Value.int .u32 (x 2),Value.int .u32 (x 3),Value.int .u32 (x 4),Value.int .u32 (x 5),Value.int .i32 (x 6),Value.int .i32 (x 7),Value.int .i32 (x 8),Value.int .i64 (x 9),Value.int .i64 (x 10),Value.int .i64 (x 11),Value.int .i32 (x 12)] 0),(5,AObj.cells [Value.string nm,Value.slice (some ⟨8,0,none⟩) (List.length bs) (2 * (List.length bs + 64)),Value.slice (some ⟨11,0,none⟩) (List.length es) (2 * (List.length es + 64)),Value.int .u32 (x 0),Value.int .u32 (x 1),Value.int .u32 (x 2),Value.int .u32 (x 3),Value.int .u32 (x 4),Value.int .u32 (x 5),Value.int .i32 (x 6),Value.int .i32 (x 7),Value.int .i32 (x 8),Value.int .i64 (x 9),Value.int .i64 (x 10),Value.int .i64 (x 11),Value.int .i32 (x 12)] 0),(6,AObj.rov (bv bs)),(7,AObj.word (List.length bs) 6),(8,AObj.cells (row26 bs (List.length bs + 64)) 0),(9,AObj.rov (av es)),(10,AObj.word (List.length es) 9),(11,AObj.cells (row27 es (List.length es + 64)) 0)] 12 :=
 cameCF_of (O:=((True∧[Value.chan (some 1)] = [Value.chan (some 1)]∧(Wd.len (Wd.v (bv bs) (List.length bs)) = Wd.len (Wd.v (bv bs) (List.length bs))∧bv bs = bv bs)∧True)∧[Value.chan (some 3)] = [Value.chan (some 3)]∧(Wd.len (Wd.v (av es) (List.length es)) = Wd.len (Wd.v (av es) (List.length es))∧av es = av es)∧True)) (by kernel_rfl) ⟨⟨trivial,⟨rfl,⟨⟨rfl,rfl⟩,trivial⟩⟩⟩,⟨rfl,⟨⟨rfl,rfl⟩,trivial⟩⟩⟩
def K11 (bs : List Int) (es : List Ent) (nm : ByteArray) (x : Nat → Int) : ConW:=⟨fun X => [.agg ⟨nodeV nm (X 0) (X 1) x⟩],[.v (bv bs) bs.length,.v (av es) es.length],
 fun σ => .agg ⟨nodeV nm (.slice (some ⟨σ 8,0,none⟩) bs.length (2 * (bs.length + 64))) (.slice (some ⟨σ 11,0,none⟩) es.length (2 * (es.length + 64))) x⟩,
 fun σ => [.cells (nodeV nm (.slice (some ⟨σ 8,0,none⟩) bs.length (2 * (bs.length + 64))) (.slice (some ⟨σ 11,0,none⟩) es.length (2 * (es.length + 64))) x) 0,.cells (nodeV nm (.slice (some ⟨σ 8,0,none⟩) bs.length (2 * (bs.length + 64))) (.slice (some ⟨σ 11,0,none⟩) es.length (2 * (es.length + 64))) x) 0,
  .rov (bv bs),.word bs.length (σ 6),.cells (row26 bs (bs.length + 64)) 0,.rov (av es),.word es.length (σ 9),.cells (row27 es (es.length + 64)) 0]⟩
theorem pk26_ok {pr : Prot} {w0 : World} (hG : Tab pr w0) {bs : List Int} (h : bs.length < 1099511627776) : SumOk Tryz.prog pr w0 0 38 (pk26 bs):=fun args μ e μ' p hg hp => viewW_ok tab_stands hG (con26 h) args args μ e μ' p hg hp
theorem pk27_ok {pr : Prot} {w0 : World} (hG : Tab pr w0) {es : List Ent} (h : es.length < 1099511627776) : SumOk Tryz.prog pr w0 0 39 (pk27 es):=fun args μ e μ' p hg hp => viewW_ok tab_stands hG (con27 h) args args μ e μ' p hg hp
theorem con11 {bs : List Int} {es : List Ent} {nm : ByteArray} {x : Nat → Int} (h1 : bs.length < 1099511627776) (h2 : es.length < 1099511627776) : ConWG Tab Tryz.prog 12 (K11 bs es nm x):=by
 refine conW_run hP1 (s:=s11 bs es) (fun pr w0 hG => withS_ok (withS_ok (sm0_ok pr w0) (pk26_ok hG h1)) (pk27_ok hG h2)) (c11_came bs es nm x) (by simp [K11,limit]) ⟨rfl,rfl,by simp,?_,by decide,(by decide : 4 ≤ 12)⟩ (by simp [K11,nodeV]) (by simp [K11,nodeV]) (by intro ι ι' f g h;simp [K11,nodeV,h 0 (by simp [K11]),h 1 (by simp [K11])]) (by intro σ;simp [K11,nodeV,upV]) (by intro σ;simp [K11,nodeV,upO,upV,(row26_plain _ _).map,(row27_plain _ _).map]) rfl ?_
 ·intro p hp
  simp only [List.mem_cons,List.not_mem_nil,or_false] at hp
  rcases hp with rfl | rfl | rfl | rfl | rfl | rfl | rfl | rfl | rfl | rfl | rfl | rfl
  ·exact ⟨by simp,trivial⟩
  ·exact ⟨by simp,by simp [BdO]⟩
  ·exact ⟨by simp,trivial⟩
  ·exact ⟨by simp,by simp [BdO]⟩
  ·exact ⟨by simp,by simp [BdO]⟩
  ·exact ⟨by simp,by simp [BdO]⟩
  ·exact ⟨by simp,trivial⟩
  ·exact ⟨by simp,by simp [BdO]⟩
  ·exact ⟨by simp,fun v hv => (row26_plain _ _ v hv).1 _⟩
  ·exact ⟨by simp,trivial⟩
  ·exact ⟨by simp,by simp [BdO]⟩
  ·exact ⟨by simp,fun v hv => (row27_plain _ _ v hv).1 _⟩
 ·intro j o' hj
  match j,hj with
  | 0,hj => exact hj
  | 1,hj => exact hj
  | 2,hj => exact hj
  | 3,hj => exact hj
  | 4,hj => exact hj
  | 5,hj => exact hj
  | 6,hj => exact hj
  | 7,hj => exact hj
  | j + 8,hj => simp [K11] at hj
structure Nd where
 nm : ByteArray
 bs : List Int
 es : List Ent
 x : Nat → Int
def tailD (x : Nat → Int) : List Deep:=[.val (.int .u32 (x 0)),.val (.int .u32 (x 1)),.val (.int .u32 (x 2)),.val (.int .u32 (x 3)),.val (.int .u32 (x 4)),.val (.int .u32 (x 5)),.val (.int .i32 (x 6)),.val (.int .i32 (x 7)),.val (.int .i32 (x 8)),.val (.int .i64 (x 9)),.val (.int .i64 (x 10)),.val (.int .i64 (x 11)),.val (.int .i32 (x 12))]
def nodeD (nm : ByteArray) (bs : List Int) (es : List Ent) (x : Nat → Int) : List Deep:=.val (.string nm) :: .slv (bv bs) bs.length :: .slv (av es) es.length :: tailD x
def nodeW (nm : ByteArray) (bs : List Int) (es : List Ent) (x : Nat → Int) : List Deep:=.val (.string nm) :: .rowc ((row26 bs (bs.length + 64)).map .val) bs.length (2 * (bs.length + 64)) :: .rowc ((row27 es (es.length + 64)).map .val) es.length (2 * (es.length + 64)) :: tailD x
def plainD (nm : ByteArray) : List Deep:=.val (.string nm) :: .val (.slice none 0 0) :: .val (.slice none 0 0) :: tailD (fun _ => 0)
def zeroN : List Value:=nodeV ⟨#[]⟩ (.slice none 0 0) (.slice none 0 0) (fun _ => 0)
def t5 (m k : Nat) : List (Nat × Value):=[(0,.chan (some 1)),(3,.slice (some ⟨2,0,none⟩) m (2 * m)),(4,.int .i64 k)]
def pk11 (bs : List Int) (es : List Ent) (nm : ByteArray) (x : Nat → Int) : SumO:=fun args μ => match args with
 | [.agg ⟨[_,d,a,_,_,_,_,_,_,_,_,_,_,_,_,_]⟩] => viewW [d,a] (K11 bs es nm x) args μ
 | _ => none
noncomputable def s5 (bs : List Int) (es : List Ent) (nm : ByteArray) (x : Nat → Int) : Sm:=withS smM 12 (pk11 bs es nm x)
def nd0 : Nd:=⟨⟨#[]⟩,[],[],fun _ => 0⟩
def Nd.d (nd : Nd) : List Deep:=nodeD nd.nm nd.bs nd.es nd.x
def Nd.w (nd : Nd) : List Deep:=nodeW nd.nm nd.bs nd.es nd.x
def Nd.small (nd : Nd) : Prop:=nd.bs.length < 1099511627776∧nd.es.length < 1099511627776
def nodesD (l : List Nd) : List Deep:=rows (fun j => (l.getD j nd0).d) l.length
def markS (j : Nat) : ByteArray:=⟨(markT (IntKind.i64.wrap (-3000000 - (j : Int)))).toArray⟩
def cellW (l : List Nd) (j : Nat) : List Deep:=match l[j]? with
 | some nd => nd.w
 | none => plainD (markS j)
def rowW (l : List Nd) (m : Nat) : List Deep:=rows (cellW l) m
theorem cellW_len (l : List Nd) (j : Nat) : (cellW l j).length = 16:=by
 unfold cellW
 split <;> rfl
theorem nodesD_len (l : List Nd) : (nodesD l).length = l.length * 16:=rows_length (s:=16) fun _ _ => rfl
theorem nodesD_get {l : List Nd} {k : Nat} (h : k < l.length) : List.take 16 (List.drop (0 + Int.toNat (k : Int) * 16) (nodesD l)) = nodeD l[k].nm l[k].bs l[k].es l[k].x:=by
 rw [Nat.zero_add,Int.toNat_natCast,nodesD,rows_at (s:=16) (fun _ _ => rfl) h,List.getD_eq_getElem?_getD,List.getElem?_eq_getElem h];rfl
theorem plain_atoms {r : List Value} (h : ∀ v ∈ r,atom v = true) : List.all r atom = true:=List.all_eq_true.2 h
theorem row26_atoms (bs : List Int) (m : Nat) : List.all (row26 bs m) atom = true:=plain_atoms fun v hv => by
 obtain ⟨j,_,hj⟩:=rows_mem hv
 simp at hj
 subst hj
 rfl
theorem row27_atoms (es : List Ent) (m : Nat) : List.all (row27 es m) atom = true:=plain_atoms fun v hv => by
 obtain ⟨j,_,hj⟩:=rows_mem hv
 simp only [cell27] at hj
 split at hj
 ·simp [cellA] at hj
  rcases hj with rfl | rfl | rfl <;> rfl
 ·simp [markA] at hj
  rcases hj with rfl | rfl | rfl <;> rfl
theorem pk11_ok {pr : Prot} {w0 : World} (hG : Tab pr w0) {bs : List Int} {es : List Ent} {nm : ByteArray} {x : Nat → Int} (h1 : bs.length < 1099511627776) (h2 : es.length < 1099511627776) : SumOk Tryz.prog pr w0 0 12 (pk11 bs es nm x):=by
 intro args μ e μ' p hg
 unfold pk11 at hg
 split at hg
 ·exact viewW_ok tab_stands hG (con11 h1 h2) _ _ μ e μ' p hg
 ·cases hg
end Go.Abs
end
section
namespace Go.Abs
open Go.Proofs
set_option maxRecDepth 100000
def kn15 (bs : List Int) : ConW := ⟨fun X => [X 0, X 1], [.v (bv bs) bs.length, .v (bv bs) bs.length], fun _ => .bool true, fun _ => []⟩
def kn16 (es : List Ent) : ConW := ⟨fun X => [X 0, X 1], [.v (av es) es.length, .v (av es) es.length], fun _ => .bool true, fun _ => []⟩
def pq (c : ConW) : List Value → Hp → Option (Value × Prop) := fun args μ => bif Nat.ble (μ.next + 2 * c.ws.length) limit then pureW args c args μ else none
def s8 (bs : List Int) (es : List Ent) : Sm := withQ (withQ sm0 25 (pq (kn15 bs))) 26 (pq (kn16 es))
def t8 (k : Nat) : List (Nat × Value) := [(0, .chan (some 1)), (1, .chan (some 3)), (4, .bool false), (5, .int .i64 k)]
def o8 (n : Nat) (ds es : List Deep) : List (Nat × AObj) := [(0, .ro ds), (1, .word n 0), (2, .ro es), (3, .word n 2)]
theorem e8a_came (n : Nat) (k : Nat) (ds : List Deep) (d2 : List Deep) (bs : List Int) (es : List Ent) (nm : ByteArray) (x : Nat → Int) (h0 : decide ((↑k : Int) < (↑n : Int)) = true) (h1 : List.take 16 (List.drop (0 + Int.toNat (↑k : Int) * 16) ds) = nodeW nm bs es x) (h2 : List.take 16 (List.drop (0 + Int.toNat (↑k : Int) * 16) d2) = nodeD nm bs es x) (h3 : 0 ≤ (↑k : Int) ∧ (↑k : Int) < (↑n : Int)) (h4 : 0 + Int.toNat (↑k : Int) * 16 = 0 + Int.toNat (↑k : Int) * 16 + 0 ∧ 1 ≤ 16) (h5 : (!ByteArray.toList nm == ByteArray.toList nm) = false) (h6 : 15 ≤ 16) (h7 : (!(x 0 == x 0 && (x 1 == x 1 && true) && (x 2 == x 2 && (x 3 == x 3 && true) && (x 4 == x 4 && (x 5 == x 5 && true) && (x 6 == x 6 && (x 7 == x 7 && (x 8 == x 8 && (x 9 == x 9 && (x 10 == x 10 && (x 11 == x 11 && true)))))))))) = false) (h8 : 16 ≤ 16) (h9 : (x 12 != x 12) = false) (h10 : 2 ≤ 16) (h11 : List.take (List.length (bv bs)) (List.drop 0 (List.map Deep.val (row26 bs (List.length bs + 64)))) = List.map Deep.val (bv bs)) (h12 : 3 ≤ 16) (h13 : List.take (List.length (av es)) (List.drop 0 (List.map Deep.val (row27 es (List.length es + 64)))) = List.map Deep.val (av es)) :
    Ran (codeO Tryz.prog E1 (s8 bs es) noRun 100 8 [0, 0, 1, 0, 1, 1] (codeAt Tryz.f8 [0, 0, 1, 0, 1, 1]) (mkFr 82 (t8 k)) (mkHp 4 (o8 n ds d2)) [.skip 4, .b true, .nm 0 (0 + Int.toNat (↑k : Int) * 16) (nodeW nm bs es x), .nm 2 (0 + Int.toNat (↑k : Int) * 16) (nodeD nm bs es x), .dp [], .skip 2, .sym, .skip 1, .kn 0, .skip 2, .sym, .skip 1, .kn 0, .skip 2, .b true, .skip 1, .b true, .skip 1, .b true, .sym, .b true, .skip 1, .b true, .kn 3, .b true, .skip 1, .b true, .skip 1, .b true, .sym, .b true, .skip 1, .b true, .kn 3, .b true, .skip 1, .b false, .skip 1, .b true, .skip 1, .b true, .skip 1, .b true, .sym, .b true, .skip 1, .b true, .kn 15, .b true, .skip 1, .b true, .skip 1, .b true, .sym, .b true, .skip 1, .b true, .kn 15, .b true, .skip 1, .b false, .skip 1, .b true, .skip 1, .b true, .skip 1, .b true, .sym, .b true, .skip 1, .b true, .kn 1, .b true, .skip 1, .b true, .skip 1, .b true, .sym, .b true, .skip 1, .b true, .kn 1, .b true, .skip 1, .b true, .skip 1, .b false, .skip 6, .sym, .skip 3, .kn 2, .skip 5, .sym, .skip 3, .kn 2, .skip 6, .frz 0, .frz 2] True) (Exit.normal) 82 [(0, Value.chan (some 1)), (1, Value.chan (some 3)), (4, Value.bool false), (5, Value.int .i64 (IntKind.wrap .i64 ((↑k : Int) + 1)))] [(0, AObj.ro ds), (1, AObj.word n 0), (2, AObj.ro d2), (3, AObj.word n 2), (4, AObj.ro (List.map Deep.val (row26 bs (List.length bs + 64)))), (5, AObj.ro (List.map Deep.val (row27 es (List.length es + 64)))), (6, AObj.rov (bv bs)), (7, AObj.word (List.length bs) 6), (8, AObj.rov (av es)), (9, AObj.word (List.length es) 8)] 10 :=
  cameF_of (O := let x0 := !(x 0 == x 0 && (x 1 == x 1 && true) && (x 2 == x 2 && (x 3 == x 3 && true) && (x 4 == x 4 && (x 5 == x 5 && true) && (x 6 == x 6 && (x 7 == x 7 && (x 8 == x 8 && (x 9 == x 9 && (x 10 == x 10 && (x 11 == x 11 && true))))))))); let x4 := !ByteArray.toList nm == ByteArray.toList nm; let x1 := x4 == false; let x2 := Wd.v (bv bs) (List.length bs); let x3 := Wd.v (av es) (List.length es); let x5 := 2 * (List.length bs + 64); let x6 := 2 * (List.length es + 64); (((((((((((((((((((((((((((((((((((((((((((((((((((((((((((((True ∧ decide ((↑k : Int) < (↑n : Int)) = true) ∧ List.take 16 (List.drop (0 + Int.toNat (↑k : Int) * 16) ds) = nodeW nm bs es x) ∧ List.take 16 (List.drop (0 + Int.toNat (↑k : Int) * 16) d2) = nodeD nm bs es x) ∧ 0 ≤ (↑k : Int) ∧ (↑k : Int) < (↑n : Int)) ∧ 0 + Int.toNat (↑k : Int) * 16 = 0 + Int.toNat (↑k : Int) * 16 + 0 ∧ 1 ≤ 16) ∧ 0 ≤ (↑k : Int) ∧ (↑k : Int) < (↑n : Int)) ∧ 0 + Int.toNat (↑k : Int) * 16 = 0 + Int.toNat (↑k : Int) * 16 + 0 ∧ 1 ≤ 16) ∧ x1 = true) ∧ x1 = true) ∧ x1 = true) ∧ 0 ≤ (↑k : Int) ∧ (↑k : Int) < (↑n : Int)) ∧ x1 = true) ∧ x1 = true) ∧ 0 + Int.toNat (↑k : Int) * 16 + 3 = 0 + Int.toNat (↑k : Int) * 16 + 3 ∧ 15 ≤ 16) ∧ x1 = true) ∧ x1 = true) ∧ x1 = true) ∧ 0 ≤ (↑k : Int) ∧ (↑k : Int) < (↑n : Int)) ∧ x1 = true) ∧ x1 = true) ∧ 0 + Int.toNat (↑k : Int) * 16 + 3 = 0 + Int.toNat (↑k : Int) * 16 + 3 ∧ 15 ≤ 16) ∧ x1 = true) ∧ x4 = false) ∧ (x0 == false) = true) ∧ (x0 == false) = true) ∧ (x0 == false) = true) ∧ 0 ≤ (↑k : Int) ∧ (↑k : Int) < (↑n : Int)) ∧ (x0 == false) = true) ∧ (x0 == false) = true) ∧ 0 + Int.toNat (↑k : Int) * 16 + 15 = 0 + Int.toNat (↑k : Int) * 16 + 15 ∧ 16 ≤ 16) ∧ (x0 == false) = true) ∧ (x0 == false) = true) ∧ (x0 == false) = true) ∧ 0 ≤ (↑k : Int) ∧ (↑k : Int) < (↑n : Int)) ∧ (x0 == false) = true) ∧ (x0 == false) = true) ∧ 0 + Int.toNat (↑k : Int) * 16 + 15 = 0 + Int.toNat (↑k : Int) * 16 + 15 ∧ 16 ≤ 16) ∧ (x0 == false) = true) ∧ x0 = false) ∧ ((x 12 != x 12) == false) = true) ∧ ((x 12 != x 12) == false) = true) ∧ ((x 12 != x 12) == false) = true) ∧ 0 ≤ (↑k : Int) ∧ (↑k : Int) < (↑n : Int)) ∧ ((x 12 != x 12) == false) = true) ∧ ((x 12 != x 12) == false) = true) ∧ 0 + Int.toNat (↑k : Int) * 16 + 1 = 0 + Int.toNat (↑k : Int) * 16 + 1 ∧ 2 ≤ 16) ∧ ((x 12 != x 12) == false) = true) ∧ ((x 12 != x 12) == false) = true) ∧ ((x 12 != x 12) == false) = true) ∧ 0 ≤ (↑k : Int) ∧ (↑k : Int) < (↑n : Int)) ∧ ((x 12 != x 12) == false) = true) ∧ ((x 12 != x 12) == false) = true) ∧ 0 + Int.toNat (↑k : Int) * 16 + 1 = 0 + Int.toNat (↑k : Int) * 16 + 1 ∧ 2 ≤ 16) ∧ ((x 12 != x 12) == false) = true) ∧ [Value.slice (some (Addr.mk 4 0 none)) (List.length bs) x5, Value.chan (some 7)] = [Value.slice (some (Addr.mk 4 0 none)) (List.length bs) x5, Value.chan (some 7)] ∧ (Wd.len x2 = Wd.len x2 ∧ List.take (List.length (bv bs)) (List.drop 0 (List.map Deep.val (row26 bs (List.length bs + 64)))) = List.map Deep.val (bv bs)) ∧ (Wd.len x2 = Wd.len x2 ∧ bv bs = bv bs) ∧ True) ∧ ((x 12 != x 12) == false) = true) ∧ (x 12 != x 12) = false) ∧ 0 ≤ (↑k : Int) ∧ (↑k : Int) < (↑n : Int)) ∧ 0 + Int.toNat (↑k : Int) * 16 + 2 = 0 + Int.toNat (↑k : Int) * 16 + 2 ∧ 3 ≤ 16) ∧ 0 ≤ (↑k : Int) ∧ (↑k : Int) < (↑n : Int)) ∧ 0 + Int.toNat (↑k : Int) * 16 + 2 = 0 + Int.toNat (↑k : Int) * 16 + 2 ∧ 3 ≤ 16) ∧ [Value.slice (some (Addr.mk 5 0 none)) (List.length es) x6, Value.chan (some 9)] = [Value.slice (some (Addr.mk 5 0 none)) (List.length es) x6, Value.chan (some 9)] ∧ (Wd.len x3 = Wd.len x3 ∧ List.take (List.length (av es)) (List.drop 0 (List.map Deep.val (row27 es (List.length es + 64)))) = List.map Deep.val (av es)) ∧ (Wd.len x3 = Wd.len x3 ∧ av es = av es) ∧ True) (by kernel_rfl) ⟨⟨⟨⟨⟨⟨⟨⟨⟨⟨⟨⟨⟨⟨⟨⟨⟨⟨⟨⟨⟨⟨⟨⟨⟨⟨⟨⟨⟨⟨⟨⟨⟨⟨⟨⟨⟨⟨⟨⟨⟨⟨⟨⟨⟨⟨⟨⟨⟨⟨⟨⟨⟨⟨⟨⟨⟨⟨⟨⟨⟨⟨trivial, h0⟩, h1⟩, h2⟩, h3⟩, h4⟩, h3⟩, h4⟩, gd h5 rfl⟩, gd h5 rfl⟩, gd h5 rfl⟩, h3⟩, gd h5 rfl⟩, gd h5 rfl⟩, ⟨rfl, h6⟩⟩, gd h5 rfl⟩, gd h5 rfl⟩, gd h5 rfl⟩, h3⟩, gd h5 rfl⟩, gd h5 rfl⟩, ⟨rfl, h6⟩⟩, gd h5 rfl⟩, h5⟩, gd h7 rfl⟩, gd h7 rfl⟩, gd h7 rfl⟩, h3⟩, gd h7 rfl⟩, gd h7 rfl⟩, ⟨rfl, h8⟩⟩, gd h7 rfl⟩, gd h7 rfl⟩, gd h7 rfl⟩, h3⟩, gd h7 rfl⟩, gd h7 rfl⟩, ⟨rfl, h8⟩⟩, gd h7 rfl⟩, h7⟩, gd h9 rfl⟩, gd h9 rfl⟩, gd h9 rfl⟩, h3⟩, gd h9 rfl⟩, gd h9 rfl⟩, ⟨rfl, h10⟩⟩, gd h9 rfl⟩, gd h9 rfl⟩, gd h9 rfl⟩, h3⟩, gd h9 rfl⟩, gd h9 rfl⟩, ⟨rfl, h10⟩⟩, gd h9 rfl⟩, ⟨rfl, ⟨⟨rfl, h11⟩, ⟨⟨rfl, rfl⟩, trivial⟩⟩⟩⟩, gd h9 rfl⟩, h9⟩, h3⟩, ⟨rfl, h12⟩⟩, h3⟩, ⟨rfl, h12⟩⟩, ⟨rfl, ⟨⟨rfl, h13⟩, ⟨⟨rfl, rfl⟩, trivial⟩⟩⟩⟩
theorem e8b_came (n : Nat) (k : Nat) (ds : List Deep) (d2 : List Deep) (h0 : decide ((↑k : Int) < (↑n : Int)) = false) :
    Ran (codeO Tryz.prog E1 (sm0) noRun 100 8 [0, 0, 1, 0, 1, 1] (codeAt Tryz.f8 [0, 0, 1, 0, 1, 1]) (mkFr 82 (t8 k)) (mkHp 4 (o8 n ds d2)) [.skip 4, .b false] True) (Exit.exit 0) 82 [(4, Value.bool false)] [(0, AObj.ro ds), (1, AObj.word n 0), (2, AObj.ro d2), (3, AObj.word n 2)] 4 :=
  cameF_of (O := (True ∧ decide ((↑k : Int) < (↑n : Int)) = false)) (by kernel_rfl) ⟨trivial, h0⟩
def q8 (n : Nat) (ds d2 : List Deep) : Sm := withL sm0 8 [1, 0, 1, 1] (piece 82 (t8 0) (o8 n ds d2) 4 .normal (mkFr 82 [(4, .bool false)]) (mkHp 4 (o8 n ds d2)))
theorem c8_came (n : Nat) (ds : List Deep) (d2 : List Deep) (h0 : ((↑n : Int) != (↑n : Int)) = false) :
    RanC (runO Tryz.prog E1 (q8 n ds d2) noRun 100 8 [Value.chan (some 1), Value.chan (some 3)] (mkHp 4 (wordsOs [Wd.d ds n, Wd.d d2 n] 0 fun n => n)) [.skip 6, .b false] True) (.returned (Value.bool true)) [(0, AObj.ro ds), (1, AObj.word n 0), (2, AObj.ro d2), (3, AObj.word n 2)] 4 :=
  cameCF_of (O := ((True ∧ ((↑n : Int) != (↑n : Int)) = false) ∧ SelfP 82 (t8 0) (o8 n ds d2) 4)) (by kernel_rfl) ⟨⟨trivial, h0⟩, selfP_true _ _ _ _⟩
theorem rows_prefix {α : Type} {f : Nat → List α} {s : Nat} : ∀ {m k : Nat}, (∀ j, j < m → (f j).length = s) → k ≤ m → (rows f m).take (k * s) = rows f k
  | 0, k, _, hk => by have : k = 0 := by omega
                      subst this; simp [rows]
  | m + 1, k, h, hk => by
    have hl := rows_length (m := m) (f := f) (s := s) (fun j hj => h j (by omega))
    by_cases hkm : k ≤ m
    · have hle : k * s ≤ m * s := Nat.mul_le_mul_right s hkm
      rw [rows_succ, List.take_append_of_le_length (by omega)]
      exact rows_prefix (fun j hj => h j (by omega)) hkm
    · have : k = m + 1 := by omega
      subst this
      rw [List.take_of_length_le]
      rw [rows_length h]
      exact Nat.le_refl _
theorem bv_rows (bs : List Int) : bv bs = rows (fun j => [Value.int .u8 (bs.getD j 0)]) bs.length := by
  apply List.ext_getElem?
  intro i
  by_cases hi : i < bs.length
  · rw [rows_at1 (fun _ _ => rfl) hi, bv, List.getElem?_map, getD_some hi]; rfl
  · rw [List.getElem?_eq_none (by simp [bv]; omega), List.getElem?_eq_none (by rw [rows_length (s := 1) (fun _ _ => rfl)]; omega)]
theorem row26_take {bs : List Int} {m : Nat} (h : bs.length ≤ m) : (row26 bs m).take bs.length = bv bs := by
  have := rows_prefix (f := cell26 bs) (s := 1) (m := m) (k := bs.length) (fun _ _ => rfl) h
  rw [Nat.mul_one] at this
  rw [bv_rows]
  refine Eq.trans this (rows_ext fun j hj => ?_)
  simp [cell26, hj]
theorem row27_take {es : List Ent} {m : Nat} (h : es.length ≤ m) : (row27 es m).take (es.length * 3) = av es := by
  rw [row27, rows_prefix (fun j _ => cell27_len es j) h, av]
  refine rows_ext fun j hj => ?_
  simp only [cell27, List.getElem?_eq_getElem hj, List.getD_eq_getElem?_getD, Option.getD_some]
theorem take26 (bs : List Int) : List.take (bv bs).length (List.drop 0 (List.map Deep.val (row26 bs (bs.length + 64)))) = List.map Deep.val (bv bs) := by
  rw [List.drop_zero, ← List.map_take, show (bv bs).length = bs.length by simp [bv], row26_take (by omega)]
theorem take27 (es : List Ent) : List.take (av es).length (List.drop 0 (List.map Deep.val (row27 es (es.length + 64)))) = List.map Deep.val (av es) := by
  rw [List.drop_zero, ← List.map_take, av_len, row27_take (by omega)]
def prefW (l : List Nd) : List Deep := rows (fun j => (l.getD j nd0).w) l.length
theorem prefW_get {l : List Nd} {k : Nat} (h : k < l.length) : List.take 16 (List.drop (0 + Int.toNat (k : Int) * 16) (prefW l)) = nodeW l[k].nm l[k].bs l[k].es l[k].x := by
  rw [Nat.zero_add, Int.toNat_natCast, prefW, rows_at (s := 16) (fun _ _ => rfl) h, List.getD_eq_getElem?_getD, List.getElem?_eq_getElem h]; rfl
theorem prefW_len (l : List Nd) : (prefW l).length = l.length * 16 := rows_length (s := 16) fun _ _ => rfl
theorem rowW_take {l : List Nd} {m : Nat} (h : l.length ≤ m) : List.take (prefW l).length (rowW l m) = prefW l := by
  rw [prefW_len, rowW, rows_prefix (fun j _ => cellW_len l j) h, prefW]
  refine rows_ext fun j hj => ?_
  simp only [cellW, List.getElem?_eq_getElem hj, List.getD_eq_getElem?_getD, Option.getD_some]
theorem pq15_ok {pr : Prot} {w0 : World} (hG : Tab pr w0) {bs : List Int} (h : bs.length < 1099511627776) : SumOk Tryz.prog pr w0 0 25 (pureS (pq (kn15 bs))) := fun args μ e μ' p hg hp => pureW_ok (c := kn15 bs) tab_stands hG (con15 (bs := bs) (by omega)) (fun _ => rfl) (fun _ => rfl) (pure_bool _) args args μ e μ' p hg hp
theorem pq16_ok {pr : Prot} {w0 : World} (hG : Tab pr w0) {es : List Ent} (h : es.length < 1099511627776) : SumOk Tryz.prog pr w0 0 26 (pureS (pq (kn16 es))) := fun args μ e μ' p hg hp => pureW_ok (c := kn16 es) tab_stands hG (con16 (es := es) (by omega)) (fun _ => rfl) (fun _ => rfl) (pure_bool _) args args μ e μ' p hg hp
theorem s8_ok {pr : Prot} {w0 : World} (hG : Tab pr w0) {bs : List Int} {es : List Ent} (h1 : bs.length < 1099511627776) (h2 : es.length < 1099511627776) : SmOk Tryz.prog E1 pr w0 (s8 bs es) := withQ_ok (withQ_ok (sm0_ok pr w0) (pq15_ok hG h1)) (pq16_ok hG h2)
def K8 (l : List Nd) : ConW := ⟨fun X => [X 0, X 1], [.d (prefW l) l.length, .d (nodesD l) l.length], fun _ => .bool true, fun _ => []⟩
theorem con8 {l : List Nd} (hl : l.length < 1099511627776) (hs : ∀ nd ∈ l, nd.small) : ConWG Tab Tryz.prog 8 (K8 l) := by
  have hF : ∀ ts, (∀ p ∈ ts, Bd 4 p.2) → smallN ts = true → Fits 4 ts (o8 l.length (prefW l) (nodesD l)) 4 := fun ts h1 h2 => ⟨h2, rfl, h1, by simp [o8, BdO], by decide, by decide⟩
  refine conW_read hP1 (s := q8 l.length (prefW l) (nodesD l)) (fun pr w0 hG => withL_ok (sm0_ok pr w0) (fn := Tryz.f8) (c := .block 0 (.loop (codeAt Tryz.f8 [0, 0, 1, 0, 1, 1]))) (by kernel_rfl) (by kernel_rfl) (block_end (hF _ (by simp [t8]) rfl) ?_)) (c8_came l.length (prefW l) (nodesD l) (by simp)) (by simp [limit]) (hF _ (by simp) rfl) (by simp) (pure_bool _) (by intro ι ι' f g h; simp [h 0 (by simp), h 1 (by simp)]) (by intro σ; simp [upV])
  have hh : Here E1 8 [0, 0, 1, 0, 1, 1] (codeAt Tryz.f8 [0, 0, 1, 0, 1, 1]) := codeAt_here (fn := Tryz.f8) (by kernel_rfl) (by kernel_rfl)
  refine rounds_tri (T := { k : Nat // k ≤ l.length }) ⟨82, fun t => t8 t.1, fun _ => o8 l.length (prefW l) (nodesD l), fun _ => 4, fun t => l.length - t.1⟩ ?_ ⟨0, Nat.zero_le _⟩
  rintro ⟨k, hk⟩
  by_cases hlt : k < l.length
  · have hsm := hs l[k] (List.getElem_mem hlt)
    have hc := e8a_came l.length k (prefW l) (nodesD l) l[k].bs l[k].es l[k].nm l[k].x (by simp; omega) (prefW_get hlt) (nodesD_get hlt) (by omega) ⟨rfl, by decide⟩ (by simp) (by decide) (by simp) (by decide) (by simp) (by decide) (take26 _) (by decide) (take27 _)
    rw [i64_succ (by omega)] at hc
    refine on_keep hP1 (s8_ok hG hsm.1 hsm.2) hh hc ⟨k + 1, hlt⟩ (by simp [t8]) (by simp [o8]) (by simp only; omega) (hF _ (by simp [t8]) rfl)
  · have hc := cut_came (e8b_came l.length k (prefW l) (nodesD l) (by simp; omega)) (ts' := [(4, .bool false)]) (by simp)
    exact out_came hP1 (sm0_ok pr w0) hh hc (by simp) (by simp) (hF _ (by simp) rfl) ⟨rfl, rfl, rfl⟩
def kn17 (n : Nat) (ds : List Deep) : Con := ⟨fun σ => [.slice (some ⟨σ 0, 0, none⟩) n (2 * (n + 64))], oR ds, 1, fun _ => .bool true, fun _ => []⟩
def pv (c : Con) : SumO := fun args μ => match args with
  | [.slice (some a) _ _] => viewS [a.block] c args μ
  | _ => none
noncomputable def s9 (bs : List Int) (es : List Ent) : Sm := withS (withS sm0 27 (pv (kn17 bs.length ((row26 bs (bs.length + 64)).map .val)))) 28 (pv (kn17 es.length ((row27 es (es.length + 64)).map .val)))
def t9a (o n len c2 c k : Nat) : List (Nat × Value) := [(0, .slice (some ⟨0, o, none⟩) n c), (3, .slice (some ⟨0, o, none⟩) len c2), (4, .int .i64 k)]
def t9b (o n c k : Nat) : List (Nat × Value) := [(0, .slice (some ⟨0, o, none⟩) n c), (5, .int .i64 k)]
theorem e9a_came (o : Nat) (n : Nat) (len : Nat) (c2 : Nat) (c : Nat) (k : Nat) (ds : List Deep) (s : ByteArray) (h0 : decide ((↑k : Int) < (↑len : Int)) = true) (h1 : 0 ≤ (↑k : Int) ∧ (↑k : Int) < (↑len : Int)) (h2 : ds[o + Int.toNat (↑k : Int) * 16]? = some (Deep.val (Value.string s))) (h3 : Int.NonNeg (IntKind.wrap .i64 (-3000000 - (↑k : Int)) - -9223372036854775808) ∧ Int.NonNeg (9223372036854775807 - IntKind.wrap .i64 (-3000000 - (↑k : Int)))) (h4 : (!ByteArray.toList s == ByteArray.toList (ByteArray.mk (List.toArray (markT (IntKind.wrap .i64 (-3000000 - (↑k : Int))))))) = false) :
    Ran (codeO Tryz.prog E1 (smM) noRun 100 9 [0, 0, 1, 0, 1, 1] (codeAt Tryz.f9 [0, 0, 1, 0, 1, 1]) (mkFr 52 (t9a o n len c2 c k)) (mkHp 1 (oR ds)) [.skip 4, .b true, .dp [], .skip 2, .sym, .skip 1, .dp [Deep.val (Value.string s)], .skip 5, .b false] True) (Exit.normal) 52 [(0, Value.slice (some ⟨0, o, none⟩) n c), (3, Value.slice (some ⟨0, o, none⟩) len c2), (4, Value.int .i64 (IntKind.wrap .i64 ((↑k : Int) + 1)))] [(0, AObj.ro ds)] 1 :=
  cameF_of (O := (((((True ∧ decide ((↑k : Int) < (↑len : Int)) = true) ∧ 0 ≤ (↑k : Int) ∧ (↑k : Int) < (↑len : Int)) ∧ ds[o + Int.toNat (↑k : Int) * 16]? = some (Deep.val (Value.string s))) ∧ Int.NonNeg (IntKind.wrap .i64 (-3000000 - (↑k : Int)) - -9223372036854775808) ∧ Int.NonNeg (9223372036854775807 - IntKind.wrap .i64 (-3000000 - (↑k : Int)))) ∧ (!ByteArray.toList s == ByteArray.toList (ByteArray.mk (List.toArray (markT (IntKind.wrap .i64 (-3000000 - (↑k : Int))))))) = false)) (by kernel_rfl) ⟨⟨⟨⟨⟨trivial, h0⟩, h1⟩, h2⟩, h3⟩, h4⟩
theorem e9b_came (o : Nat) (n : Nat) (len : Nat) (c2 : Nat) (c : Nat) (k : Nat) (ds : List Deep) (h0 : decide ((↑k : Int) < (↑len : Int)) = false) :
    Ran (codeO Tryz.prog E1 (sm0) noRun 100 9 [0, 0, 1, 0, 1, 1] (codeAt Tryz.f9 [0, 0, 1, 0, 1, 1]) (mkFr 52 (t9a o n len c2 c k)) (mkHp 1 (oR ds)) [.skip 4, .b false] True) (Exit.exit 0) 52 [(0, Value.slice (some ⟨0, o, none⟩) n c), (3, Value.slice (some ⟨0, o, none⟩) len c2), (4, Value.int .i64 (↑k : Int))] [(0, AObj.ro ds)] 1 :=
  cameF_of (O := (True ∧ decide ((↑k : Int) < (↑len : Int)) = false)) (by kernel_rfl) ⟨trivial, h0⟩
theorem e9c_came (o : Nat) (n : Nat) (c : Nat) (k : Nat) (ds : List Deep) (bs : List Int) (es : List Ent) (h0 : decide ((↑k : Int) < (↑n : Int)) = true) (h1 : 0 ≤ (↑k : Int) ∧ (↑k : Int) < (↑n : Int)) (h2 : ds[o + Int.toNat (↑k : Int) * 16 + 1]? = some (Deep.rowc (List.map Deep.val (row26 bs (List.length bs + 64))) (List.length bs) (2 * (List.length bs + 64)))) (h3 : ds[o + Int.toNat (↑k : Int) * 16 + 2]? = some (Deep.rowc (List.map Deep.val (row27 es (List.length es + 64))) (List.length es) (2 * (List.length es + 64)))) :
    Ran (codeO Tryz.prog E1 (s9 bs es) noRun 100 9 [0, 0, 1, 0, 1, 1, 1] (codeAt Tryz.f9 [0, 0, 1, 0, 1, 1, 1]) (mkFr 52 (t9b o n c k)) (mkHp 1 (oR ds)) [.skip 4, .b true, .skip 2, .sym, .skip 1, .dp [Deep.rowc (List.map Deep.val (row26 bs (List.length bs + 64))) (List.length bs) (2 * (List.length bs + 64))], .skip 7, .sym, .skip 3, .dp [Deep.rowc (List.map Deep.val (row27 es (List.length es + 64))) (List.length es) (2 * (List.length es + 64))]] True) (Exit.normal) 52 [(0, Value.slice (some ⟨0, o, none⟩) n c), (5, Value.int .i64 (IntKind.wrap .i64 ((↑k : Int) + 1)))] [(0, AObj.ro ds), (1, AObj.ro (List.map Deep.val (row26 bs (List.length bs + 64)))), (2, AObj.ro (List.map Deep.val (row27 es (List.length es + 64))))] 3 :=
  cameF_of (O := let x0 := row26 bs (List.length bs + 64); let x1 := row27 es (List.length es + 64); let x2 := 2 * (List.length bs + 64); let x3 := 2 * (List.length es + 64); ((((((True ∧ decide ((↑k : Int) < (↑n : Int)) = true) ∧ 0 ≤ (↑k : Int) ∧ (↑k : Int) < (↑n : Int)) ∧ ds[o + Int.toNat (↑k : Int) * 16 + 1]? = some (Deep.rowc (List.map Deep.val x0) (List.length bs) x2)) ∧ ([Value.slice (some (Addr.mk 1 0 none)) (List.length bs) x2] = [Value.slice (some (Addr.mk 1 0 none)) (List.length bs) x2] ∧ true = true ∧ true = true) ∧ List.map Deep.val x0 = List.map Deep.val x0 ∧ True) ∧ 0 ≤ (↑k : Int) ∧ (↑k : Int) < (↑n : Int)) ∧ ds[o + Int.toNat (↑k : Int) * 16 + 2]? = some (Deep.rowc (List.map Deep.val x1) (List.length es) x3)) ∧ ([Value.slice (some (Addr.mk 2 0 none)) (List.length es) x3] = [Value.slice (some (Addr.mk 2 0 none)) (List.length es) x3] ∧ true = true ∧ true = true) ∧ List.map Deep.val x1 = List.map Deep.val x1 ∧ True) (by kernel_rfl) ⟨⟨⟨⟨⟨⟨⟨trivial, h0⟩, h1⟩, h2⟩, ⟨⟨rfl, ⟨rfl, rfl⟩⟩, ⟨rfl, trivial⟩⟩⟩, h1⟩, h3⟩, ⟨⟨rfl, ⟨rfl, rfl⟩⟩, ⟨rfl, trivial⟩⟩⟩
theorem e9d_came (o : Nat) (n : Nat) (c : Nat) (k : Nat) (ds : List Deep) (h0 : decide ((↑k : Int) < (↑n : Int)) = false) :
    Ran (codeO Tryz.prog E1 (sm0) noRun 100 9 [0, 0, 1, 0, 1, 1, 1] (codeAt Tryz.f9 [0, 0, 1, 0, 1, 1, 1]) (mkFr 52 (t9b o n c k)) (mkHp 1 (oR ds)) [.skip 4, .b false] True) (Exit.exit 2) 52 [(0, Value.slice (some ⟨0, o, none⟩) n c), (5, Value.int .i64 (↑k : Int))] [(0, AObj.ro ds)] 1 :=
  cameF_of (O := (True ∧ decide ((↑k : Int) < (↑n : Int)) = false)) (by kernel_rfl) ⟨trivial, h0⟩
noncomputable def q9 (n c : Nat) (ds : List Deep) : Sm := withL (withL sm0 9 [1, 0, 1, 1] (piece 52 (t9a 0 n (Int.toNat (IntKind.i64.wrap ((n : Int) + 64)) - 0) (c - 2 * 0) c n) (oR ds) 1 .normal (mkFr 52 [(0, .slice (some ⟨0, 0, none⟩) n c)]) (mkHp 1 (oR ds)))) 9 [1, 0, 1, 1, 1] (piece 52 (t9b 0 n c 0) (oR ds) 1 .normal (mkFr 52 []) (mkHp 1 (oR ds)))
theorem c9_came (n : Nat) (c : Nat) (ds : List Deep) (h0 : 0 ≤ IntKind.wrap .i64 ((↑n : Int) + 64)) (h1 : IntKind.wrap .i64 ((↑n : Int) + 64) ≤ (↑(capOf c) : Int)) (h2 : 0 ≤ capOf c) (h3 : 0 ≠ capOf c) :
    RanC (runO Tryz.prog E1 (q9 n c ds) noRun 100 9 [Value.slice (some ⟨0, 0, none⟩) n c] (mkHp 1 (oR ds)) [.skip 5, .sym] True) (.returned (Value.bool true)) [(0, AObj.ro ds)] 1 :=
  cameCF_of (O := (((True ∧ ((0 ≤ IntKind.wrap .i64 ((↑n : Int) + 64) ∧ IntKind.wrap .i64 ((↑n : Int) + 64) ≤ (↑(capOf c) : Int)) ∧ True ∧ 0 ≤ capOf c) ∧ 0 ≠ capOf c) ∧ SelfP 52 (t9a 0 n (Int.toNat (IntKind.wrap .i64 ((↑n : Int) + 64)) - 0) (c - 2 * 0) c n) (oR ds) 1) ∧ SelfP 52 (t9b 0 n c 0) (oR ds) 1)) (by kernel_rfl) ⟨⟨⟨trivial, ⟨⟨⟨h0, h1⟩, ⟨trivial, h2⟩⟩, h3⟩⟩, selfP_true _ _ _ _⟩, selfP_true _ _ _ _⟩
theorem pv_ok {pr : Prot} {w0 : World} (hG : Tab pr w0) {f : Nat} {c : Con} (h : ConG Tab Tryz.prog f c) : SumOk Tryz.prog pr w0 0 f (pv c) := by
  intro args μ e μ' p hg
  unfold pv at hg
  split at hg
  · exact viewG_ok tab_stands.stands hG h _ _ μ e μ' p hg
  · cases hg
theorem mark26 {bs : List Int} {m k : Nat} (h1 : bs.length ≤ k) (h2 : k < m) : ((row26 bs m).map Deep.val)[0 + k]? = some (.val (.int .u8 (mkB k))) := by
  rw [Nat.zero_add, List.getElem?_map, row26, rows_at1 (fun _ _ => rfl) h2]
  simp [Nat.not_lt.2 h1, mkB]
theorem mark27 {es : List Ent} {m k : Nat} (h1 : es.length ≤ k) (h2 : k < m) : ((row27 es m).map Deep.val)[0 + k * 3 + 1 + 1]? = some (.val (.string ⟨(markT (IntKind.i64.wrap (-3000000 - (k : Int)))).toArray⟩)) := by
  rw [Nat.zero_add, show k * 3 + 1 + 1 = k * 3 + 2 by omega, List.getElem?_map, row27, rows_get (s := 3) (fun j _ => cell27_len es j) h2 (by omega)]
  simp [cell27, List.getElem?_eq_none h1, markA]
theorem s9_ok {pr : Prot} {w0 : World} (hG : Tab pr w0) {bs : List Int} {es : List Ent} (h1 : bs.length < 1099511627776) (h2 : es.length < 1099511627776) : SmOk Tryz.prog E1 pr w0 (s9 bs es) :=
  withS_ok (withS_ok (sm0_ok pr w0) (pv_ok hG (c := kn17 _ _) ((con17 (fun k => mark26) (by omega) (by simp [capOf])).toG))) (pv_ok hG (c := kn17 _ _) (con18 (fun k => mark27) h2 (by simp [capOf])))
theorem con9 {l : List Nd} (hl : l.length < 1099511627776) (hs : ∀ nd ∈ l, nd.small) : ConG Tab Tryz.prog 9 ⟨fun σ => [.slice (some ⟨σ 0, 0, none⟩) l.length (2 * (l.length + 64))], oR (rowW l (l.length + 64)), 1, fun _ => .bool true, fun _ => []⟩ := by
  have hF : ∀ ts, (∀ p ∈ ts, Bd 1 p.2) → smallN ts = true → Fits 1 ts (oR (rowW l (l.length + 64))) 1 := fun ts h1 h2 => ⟨h2, rfl, h1, by simp [oR, BdO], by decide, by decide⟩
  have hw : IntKind.i64.wrap ((l.length : Int) + 64) = ((l.length + 64 : Nat) : Int) := by
    rw [i64_small (by omega) (by omega)]; omega
  have hw' : (Int.toNat (IntKind.i64.wrap ((l.length : Int) + 64)) - 0) = l.length + 64 := by rw [hw]; omega
  have hcap : capOf (2 * (l.length + 64)) = l.length + 64 := by simp [capOf]
  have hk0 : ∀ k : Nat, 0 + Int.toNat (k : Int) * 16 = k * 16 := by intro k; simp
  refine conG_read hP1 (s := q9 l.length (2 * (l.length + 64)) (rowW l (l.length + 64))) (fun pr w0 hG => withL_ok (withL_ok (sm0_ok pr w0) (fn := Tryz.f9) (c := .block 0 (.loop (codeAt Tryz.f9 [0, 0, 1, 0, 1, 1]))) (by kernel_rfl) (by kernel_rfl) (block_end (hF _ (by simp [t9a]) rfl) ?_)) (fn := Tryz.f9) (c := .block 2 (.loop (codeAt Tryz.f9 [0, 0, 1, 0, 1, 1, 1]))) (by kernel_rfl) (by kernel_rfl) (block_end (hF _ (by simp [t9b]) rfl) ?_)) (c9_came l.length (2 * (l.length + 64)) (rowW l (l.length + 64)) ?_ ?_ ?_ ?_) (hF _ (by simp) rfl) (hF _ (by simp) rfl) (by simp) (by simp) (by intro σ; simp [upV]) (by intro σ; simp [upV])
  · rw [hw']
    have hh : Here E1 9 [0, 0, 1, 0, 1, 1] (codeAt Tryz.f9 [0, 0, 1, 0, 1, 1]) := codeAt_here (fn := Tryz.f9) (by kernel_rfl) (by kernel_rfl)
    refine rounds_tri (T := { k : Nat // l.length ≤ k ∧ k ≤ l.length + 64 }) ⟨52, fun t => t9a 0 l.length (l.length + 64) (2 * (l.length + 64) - 2 * 0) (2 * (l.length + 64)) t.1, fun _ => oR (rowW l (l.length + 64)), fun _ => 1, fun t => l.length + 64 - t.1⟩ ?_ ⟨l.length, Nat.le_refl _, by omega⟩
    rintro ⟨k, hk1, hk⟩
    by_cases hlt : k < l.length + 64
    · have hc := e9a_came 0 l.length (l.length + 64) (2 * (l.length + 64) - 2 * 0) (2 * (l.length + 64)) k (rowW l (l.length + 64)) (markS k) (by simp; omega) (by omega) (by
        have := rows_get (f := cellW l) (s := 16) (m := l.length + 64) (fun j _ => cellW_len l j) hlt (r := 0) (by omega)
        rw [hk0, rowW, show k * 16 = k * 16 + 0 from rfl, this]
        simp [cellW, List.getElem?_eq_none hk1, plainD]) rng_mark (by simp [markS])
      rw [i64_succ (by omega)] at hc
      exact on_came hP1 (smM_ok pr w0 hG) hh hc ⟨k + 1, by omega, by omega⟩ rfl rfl rfl (by simp only; omega) (hF _ (by simp [t9a]) rfl)
    · have hc := cut_came (e9b_came 0 l.length (l.length + 64) (2 * (l.length + 64) - 2 * 0) (2 * (l.length + 64)) k (rowW l (l.length + 64)) (by simp; omega)) (ts' := [(0, .slice (some ⟨0, 0, none⟩) l.length (2 * (l.length + 64)))]) (by simp)
      exact out_came hP1 (sm0_ok pr w0) hh hc (by simp) (by simp) (hF _ (by simp) rfl) ⟨rfl, rfl, rfl⟩
  · have hh : Here E1 9 [0, 0, 1, 0, 1, 1, 1] (codeAt Tryz.f9 [0, 0, 1, 0, 1, 1, 1]) := codeAt_here (fn := Tryz.f9) (by kernel_rfl) (by kernel_rfl)
    refine rounds_tri (T := { k : Nat // k ≤ l.length }) ⟨52, fun t => t9b 0 l.length (2 * (l.length + 64)) t.1, fun _ => oR (rowW l (l.length + 64)), fun _ => 1, fun t => l.length - t.1⟩ ?_ ⟨0, Nat.zero_le _⟩
    rintro ⟨k, hk⟩
    by_cases hlt : k < l.length
    · have hsm := hs l[k] (List.getElem_mem hlt)
      have hcell : cellW l k = l[k].w := by simp only [cellW, List.getElem?_eq_getElem hlt]
      have hg : ∀ r, r < 16 → (rowW l (l.length + 64))[0 + Int.toNat (k : Int) * 16 + r]? = l[k].w[r]? := by
        intro r hr
        rw [hk0, rowW, rows_get (f := cellW l) (s := 16) (m := l.length + 64) (fun j _ => cellW_len l j) (by omega) hr, hcell]
      have hc := e9c_came 0 l.length (2 * (l.length + 64)) k (rowW l (l.length + 64)) l[k].bs l[k].es (by simp; omega) (by omega) (hg 1 (by omega)) (hg 2 (by omega))
      rw [i64_succ (by omega)] at hc
      exact on_keep hP1 (s9_ok hG hsm.1 hsm.2) hh hc ⟨k + 1, hlt⟩ (by simp [t9b]) (by simp [oR]) (by simp only; omega) (hF _ (by simp [t9b]) rfl)
    · have hc := cut_came (e9d_came 0 l.length (2 * (l.length + 64)) k (rowW l (l.length + 64)) (by simp; omega)) (ts' := []) (by simp)
      exact out_came hP1 (sm0_ok pr w0) hh hc (by simp) (by simp) (hF _ (by simp) rfl) ⟨rfl, rfl, rfl⟩
  · omega
  · rw [hcap, hw]; omega
  · omega
  · rw [hcap]; omega
end Go.Abs
end
