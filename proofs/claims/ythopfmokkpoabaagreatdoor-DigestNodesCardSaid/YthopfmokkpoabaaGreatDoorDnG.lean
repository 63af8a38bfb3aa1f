/-
  What the law's functions come to: part G.
-/
import Derived.Test.YthopfmokkpoabaaGreatDoorDnF
import Derived.Test.YthopfmokkpoabaaGreatDoorDnL
import Derived.Test.YthopfmokkpoabaaGreatDoorDnE
import Derived.Test.YthopfmokkpoabaaGreatDoorBmE
set_option linter.unusedVariables false
set_option linter.unusedSimpArgs false
set_option linter.unusedSectionVars false
section
namespace Go.Abs
open Go.Proofs
set_option maxRecDepth 100000
def tW0 : List (Nat × Value):=[(2,.bool false),(3,.chan (some 1))]
def tW9 : List (Nat × Value):=[(2,.bool false),(3,.chan (some 1)),(9,.chan (some 5))]
def tWk (k : Nat) : List (Nat × Value):=[(2,.bool false),(3,.chan (some 1)),(9,.chan (some 5)),(10,.int .i64 k)]
def oW6 (n : Nat) (ds : List Deep) : List (Nat × AObj):=[(0,.ro ds),(1,.word n 0),(4,.ro ds),(5,.word n 4)]
def sB (l : List Nd) : Sm:=withS sm0 10 (fun args μ => viewW args (K10 l) args μ)
noncomputable def sZ : Sm:=withQ sm0 11 livesQ
theorem w1_came (l : List Nd)  :
  Ran (codeO Tryz.prog E1 (sB l) noRun 100 3 [0,1,1,1,1,1,1] (codeAt Tryz.f3 [0,1,1,1,1,1,1]) (mkFr 124 tW0) (mkHp 2 (oN0 (List.length l) (nodesD l))) [] True) (Exit.normal) 124 [(2,Value.bool false),(3,Value.chan (some 1)),(9,Value.chan (some 5))] [(0,AObj.ro (nodesD l)),(1,AObj.word (List.length l) 0),(2,AObj.ro (nodesD l)),(3,AObj.word (List.length l) 2),(4,AObj.ro (nodesD l)),(5,AObj.word (List.length l) 4)] 6 :=
 cameF_of (O:=(True∧[Value.chan (some 1)] = [Value.chan (some 1)]∧(Wd.len (Wd.d (nodesD l) (List.length l)) = Wd.len (Wd.d (nodesD l) (List.length l))∧nodesD l = nodesD l)∧True)) (by kernel_rfl) ⟨trivial,⟨rfl,⟨⟨rfl,rfl⟩,trivial⟩⟩⟩
theorem w2_came (n : Nat) (ds : List Deep)  :
  Ran (codeO Tryz.prog E1 (sm0) noRun 100 3 [0,0,1,1,1,1,1,1,1] (codeAt Tryz.f3 [0,0,1,1,1,1,1,1,1]) (mkFr 124 tW9) (mkHp 6 (oW6 n ds)) [] True) (Exit.normal) 124 [(2,Value.bool false),(3,Value.chan (some 1)),(9,Value.chan (some 5)),(10,Value.int .i64 0)] [(0,AObj.ro ds),(1,AObj.word n 0),(4,AObj.ro ds),(5,AObj.word n 4)] 6 :=
 cameF_of (O:=True) (by kernel_rfl) trivial
theorem w3_came (n : Nat) (k : Nat) (ds : List Deep) (bs : List Int) (es : List Ent) (nm : ByteArray) (x : Nat → Int) (h : Int) (h0 : decide ((↑k : Int) < (↑n : Int)) = true) (h1 : 0 ≤ (↑k : Int)∧(↑k : Int) < (↑n : Int)) (h2 : List.take 16 (List.drop (0 + Int.toNat (↑k : Int) * 16) ds) = nodeD nm bs es x) (h3 : (h != h) = false) :
  Ran (codeO Tryz.prog E1 (sV bs es nm x h) noRun 100 3 [0,0,1,0,1,1,1,1,1,1,1] (codeAt Tryz.f3 [0,0,1,0,1,1,1,1,1,1,1]) (mkFr 124 (tWk k)) (mkHp 6 (oW6 n ds)) [.skip 4,.b true,.skip 2,.sym,.dp (nodeD nm bs es x),.skip 5,.sym,.dp (nodeD nm bs es x),.skip 2,.b false] True) (Exit.normal) 124 [(2,Value.bool false),(3,Value.chan (some 1)),(9,Value.chan (some 5)),(10,Value.int .i64 (IntKind.wrap .i64 ((↑k : Int) + 1)))] [(0,AObj.ro ds),(1,AObj.word n 0),(4,AObj.ro ds),(5,AObj.word n 4),(6,AObj.rov (bv bs)),(7,AObj.word (List.length bs) 6),(8,AObj.rov (av es)),(9,AObj.word (List.length es) 8),(10,AObj.rov (bv bs)),(11,AObj.word (List.length bs) 10),(12,AObj.rov (av es)),(13,AObj.word (List.length es) 12)] 14 :=
 cameF_of (O:=let x0:=Array.mk [Value.string nm,Value.chan (some 11),Value.chan (some 13),Value.int .u32 (x 0),Value.int .u32 (x 1),Value.int .u32 (x 2),Value.int .u32 (x 3),Value.int .u32 (x 4),Value.int .u32 (x 5),Value.int .i32 (x 6),Value.int .i32 (x 7),Value.int .i32 (x 8),Value.int .i64 (x 9),Value.int .i64 (x 10),Value.int .i64 (x 11),Value.int .i32 (x 12)];let x1:=Array.mk [Value.string nm,Value.chan (some 7),Value.chan (some 9),Value.int .u32 (x 0),Value.int .u32 (x 1),Value.int .u32 (x 2),Value.int .u32 (x 3),Value.int .u32 (x 4),Value.int .u32 (x 5),Value.int .i32 (x 6),Value.int .i32 (x 7),Value.int .i32 (x 8),Value.int .i64 (x 9),Value.int .i64 (x 10),Value.int .i64 (x 11),Value.int .i32 (x 12)];let x4:=Wd.v (bv bs) (List.length bs);let x2:=Wd.len x4 = Wd.len x4∧bv bs = bv bs;let x5:=Wd.v (av es) (List.length es);let x3:=Wd.len x5 = Wd.len x5∧av es = av es;(((((((True∧decide ((↑k : Int) < (↑n : Int)) = true)∧0 ≤ (↑k : Int)∧(↑k : Int) < (↑n : Int))∧List.take 16 (List.drop (0 + Int.toNat (↑k : Int) * 16) ds) = nodeD nm bs es x)∧[Value.agg x1] = [Value.agg x1]∧x2∧x3∧True)∧0 ≤ (↑k : Int)∧(↑k : Int) < (↑n : Int))∧List.take 16 (List.drop (0 + Int.toNat (↑k : Int) * 16) ds) = nodeD nm bs es x)∧[Value.agg x0] = [Value.agg x0]∧x2∧x3∧True)∧(h != h) = false) (by kernel_rfl) ⟨⟨⟨⟨⟨⟨⟨⟨trivial,h0⟩,h1⟩,h2⟩,⟨rfl,⟨⟨rfl,rfl⟩,⟨⟨rfl,rfl⟩,trivial⟩⟩⟩⟩,h1⟩,h2⟩,⟨rfl,⟨⟨rfl,rfl⟩,⟨⟨rfl,rfl⟩,trivial⟩⟩⟩⟩,h3⟩
theorem w4_came (n : Nat) (k : Nat) (ds : List Deep) (h0 : decide ((↑k : Int) < (↑n : Int)) = false) :
  Ran (codeO Tryz.prog E1 (sm0) noRun 100 3 [0,0,1,0,1,1,1,1,1,1,1] (codeAt Tryz.f3 [0,0,1,0,1,1,1,1,1,1,1]) (mkFr 124 (tWk k)) (mkHp 6 (oW6 n ds)) [.skip 4,.b false] True) (Exit.exit 8) 124 [(2,Value.bool false),(3,Value.chan (some 1)),(9,Value.chan (some 5))] [(0,AObj.ro ds),(1,AObj.word n 0),(4,AObj.ro ds),(5,AObj.word n 4)] 6 :=
 cameF_of (O:=(True∧decide ((↑k : Int) < (↑n : Int)) = false)) (by kernel_rfl) ⟨trivial,h0⟩
theorem w5_came (n : Nat) (ds : List Deep) (h0 : True) :
  Ran (codeO Tryz.prog E1 (sZ) noRun 100 3 [1,1,1,1,1,1,1,1] (codeAt Tryz.f3 [1,1,1,1,1,1,1,1]) (mkFr 124 tW9) (mkHp 6 (oW6 n ds)) [] True) (Exit.ret) 124 [(2,Value.bool true)] [(0,AObj.ro ds),(1,AObj.word n 0),(4,AObj.ro ds),(5,AObj.word n 4)] 6 :=
 cameF_of (O:=(True∧True)) (by kernel_rfl) ⟨trivial,h0⟩
theorem oW6_bd {n : Nat} {ds : List Deep} : ∀ p ∈ oW6 n ds,p.1 < 6∧BdO 6 p.2:=by
 intro p hp
 simp only [oW6,List.mem_cons,List.not_mem_nil,or_false] at hp
 rcases hp with rfl | rfl | rfl | rfl
 ·exact ⟨by simp,trivial⟩
 ·exact ⟨by simp,by simp [BdO]⟩
 ·exact ⟨by simp,trivial⟩
 ·exact ⟨by simp,by simp [BdO]⟩
theorem tWk_bd (k : Nat) : ∀ p ∈ tWk k,Bd 6 p.2:=by simp [tWk]
theorem tW9_bd : ∀ p ∈ tW9,Bd 6 p.2:=by simp [tW9]
theorem shapeB : codeAt Tryz.f3 [1,1,1,1,1,1] = .seq (codeAt Tryz.f3 [0,1,1,1,1,1,1]) (.seq (.seq (codeAt Tryz.f3 [0,0,1,1,1,1,1,1,1]) (.block 8 (.loop (codeAt Tryz.f3 [0,0,1,0,1,1,1,1,1,1,1])))) (codeAt Tryz.f3 [1,1,1,1,1,1,1,1])):=by kernel_rfl
theorem lawLoop3 {l : List Nd} (hl : l.length < 16777216) (hok : ∀ nd ∈ l,nd.ok) {pr : Prot} {w0 : World} (hG : Tab pr w0) :
  Tri Tryz.prog pr w0 2 (.loop (codeAt Tryz.f3 [0,0,1,0,1,1,1,1,1,1,1])) (mkFr 124 (tWk 0)) (mkHp 6 (oW6 l.length (nodesD l))) fun e f m => e = .exit 8∧f = mkFr 124 tW9∧m = mkHp 6 (oW6 l.length (nodesD l)):=by
 refine tri_loop (T:={ i : Nat // i ≤ l.length }) (fun t => mkFr 124 (tWk t.1)) (fun _ => mkHp 6 (oW6 l.length (nodesD l))) (fun t => l.length - t.1) ?_ ⟨0,Nat.zero_le _⟩
 rintro ⟨i,hi⟩
 simp only
 have hh:=hhX [0,0,1,0,1,1,1,1,1,1,1] (by kernel_rfl)
 by_cases hlt : i < l.length
 ·have hc:=w3_came l.length i (nodesD l) l[i].bs l[i].es l[i].nm l[i].x l[i].val (by simp;omega) (by omega) (nodesD_get hlt) (by simp)
  rw [i64_succ (by omega)] at hc
  have h:=tri_came_via hP1.hE hP1.ng hP1.mix (sV_ok hG (hok _ (List.getElem_mem hlt))) noRun_ok hh hc.of (fun n => n) (ts:=tWk (i + 1)) (os:=oW6 l.length (nodesD l)) (next:=6) (fun p hp => by rw [upV_id];revert p;simp [tWk]) (fun p hp => by rw [upO_id];revert p;simp [oW6]) (fun p _ q _ h => h) (by simp) rfl rfl (tWk_bd _) oW6_bd (by decide) (N:=2) (fun _ _ => rfl) (by decide)
  refine h.weaken ?_
  rintro e f m ⟨rfl,rfl,rfl⟩
  exact .inl (.inl ⟨rfl,⟨i + 1,hlt⟩,rfl,rfl,by simp only;omega⟩)
 ·obtain rfl : i = l.length:=by omega
  have h:=tri_came_via hP1.hE hP1.ng hP1.mix (sm0_ok pr w0) noRun_ok hh (w4_came l.length l.length (nodesD l) (by simp)).of (fun n => n) (ts:=tW9) (os:=oW6 l.length (nodesD l)) (next:=6) (fun p hp => by rw [upV_id];revert p;simp [tW9]) (fun p hp => by rw [upO_id];revert p;simp [oW6]) (fun p _ q _ h => h) (by simp) rfl rfl tW9_bd oW6_bd (by decide) (N:=2) (fun _ _ => rfl) (by decide)
  refine h.weaken ?_
  rintro e f m ⟨rfl,rfl,rfl⟩
  exact .inl (.inr ⟨by simp,rfl,rfl,rfl⟩)
theorem lawBw {l : List Nd} (hl : l.length < 16777216) (hok : ∀ nd ∈ l,nd.ok) (hs : ∀ nd ∈ l,nd.small) {pr : Prot} {w0 : World} (hG : TabZ pr w0) :
  Tri Tryz.prog pr w0 2 (codeAt Tryz.f3 [1,1,1,1,1,1]) (mkFr 124 tW0) (mkHp 2 (oN0 l.length (nodesD l))) fun e f m => e = .ret∧f = mkFr 124 [(2,.bool true)]:=by
 have h1:=tri_came_via hP1.hE hP1.ng hP1.mix (s:=sB l) (withS_ok (sm0_ok pr w0) (fun args μ e μ' p hg hp => viewW_ok tab_stands hG.1 (con10 hl hs) args args μ e μ' p hg hp)) noRun_ok (hhX [0,1,1,1,1,1,1] (by kernel_rfl)) (w1_came l).of (fun n => n) (ts:=tW9) (os:=oW6 l.length (nodesD l)) (next:=6) (fun p hp => by rw [upV_id];revert p;simp [tW9]) (fun p hp => by rw [upO_id];revert p;simp [oW6]) (fun p _ q _ h => h) (by simp) rfl rfl tW9_bd oW6_bd (by decide) (N:=2) (fun _ _ => rfl) (by decide)
 have h2:=tri_came_via hP1.hE hP1.ng hP1.mix (sm0_ok pr w0) noRun_ok (hhX [0,0,1,1,1,1,1,1,1] (by kernel_rfl)) (w2_came l.length (nodesD l)).of (fun n => n) (ts:=tWk 0) (os:=oW6 l.length (nodesD l)) (next:=6) (fun p hp => by rw [upV_id];revert p;simp [tWk]) (fun p hp => by rw [upO_id];revert p;simp [oW6]) (fun p _ q _ h => h) (by simp) rfl rfl (tWk_bd _) oW6_bd (by decide) (N:=2) (fun _ _ => rfl) (by decide)
 have h3 : Tri Tryz.prog pr w0 2 (.block 8 (.loop (codeAt Tryz.f3 [0,0,1,0,1,1,1,1,1,1,1]))) (mkFr 124 (tWk 0)) (mkHp 6 (oW6 l.length (nodesD l))) fun e f m => e = .normal∧f = mkFr 124 tW9∧m = mkHp 6 (oW6 l.length (nodesD l)) :=
  tri_block (lawLoop3 hl hok hG.1) (fun f m h => ⟨rfl,h.2⟩) (fun e f m hne h => absurd h.1 hne)
 have h4:=tri_came_via hP1.hE hP1.ng hP1.mix (s:=sZ) (withQ_ok (sm0_ok pr w0) (lives_ok hG)) noRun_ok (hhX [1,1,1,1,1,1,1,1] (by kernel_rfl)) (w5_came l.length (nodesD l) trivial).of (fun n => n) (ts:=[(2,.bool true)]) (os:=oW6 l.length (nodesD l)) (next:=6) (fun p hp => by rw [upV_id];revert p;simp) (fun p hp => by rw [upO_id];revert p;simp [oW6]) (fun p _ q _ h => h) (by simp) rfl rfl (by simp) oW6_bd (by decide) (N:=2) (fun _ _ => rfl) (by decide)
 rw [shapeB]
 exact (tri_seq h1 (tri_seq (tri_seq h2 h3) h4)).weaken fun e f m h => .inl ⟨h.1,h.2.1⟩
theorem lawB {l l' : List Nd} (hl : l.length < 16777216) {K : Nat → List Value × List Value} (hlen : l'.length = l.length) (hok : ∀ nd ∈ l',nd.ok) (hs : ∀ nd ∈ l',nd.small)
  (h : ∀ j (h : j < l.length) (h' : j < l'.length),l'[j].nm = l[j].nm∧l'[j].x = l[j].x∧l'[j].bs.length = l[j].bs.length∧l'[j].es.length = l[j].es.length∧(K j).1.take l'[j].bs.length = bv l'[j].bs∧(K j).2.take (l'[j].es.length * 3) = av l'[j].es) (c : Nat) {pr : Prot} {w0 : World} (hG : TabZ pr w0) {N : Nat} :
  Tri Tryz.prog pr w0 N (codeAt Tryz.f3 [1,1,1,1,1,1]) (mkFr 124 (tB l.length c)) (mkHp 400000000 (oK l K)) fun e f m => e = .ret∧f = mkFr 124 [(2,.bool true)]∧m = mkHp 400000000 (oK l K) :=
 tri_word tabz_stands hG (by simp) (tsW:=tW0) (k:=.d (nodesD l') l'.length) (x:=.slice (some ⟨2,0,none⟩) l.length c) (nest_words hl hlen h c) rfl rfl rfl rfl (by simp [tW0,tB,look,pure_bool]) (by simp [pure_bool]) fun pr w0 hG => lawBw (by omega) hok hs hG
end Go.Abs
end
section
namespace Go.Abs
open Go.Proofs
set_option maxRecDepth 100000
theorem outW_ge : ∀ (l : List Nd) (N : Nat),outW N l < 16777216 → ∀ nd ∈ l,N + nd.w0 + (nd.es.map fun a => a.2.1.size + a.2.2.size).sum < 16777216
 | [],N,_,nd,h => by cases h
 | a :: r,N,h,nd,hm => by
  have hle : ∀ (l : List Nd) (N : Nat),N ≤ outW N l:=by
   intro l
   induction l with
   | nil => intro N;exact Nat.le_refl _
   | cons b s ih =>
    intro N
    unfold outW
    split
    ·have h1 : ∀ (es : List Ent) (N : Nat),N ≤ inW N es:=by
      intro es
      induction es with
      | nil => intro N;exact Nat.le_refl _
      | cons e es ih =>
       intro N
       unfold inW
       split
       ·have:=ih (N + e.2.1.size + e.2.2.size);omega
       ·exact Nat.le_refl _
     have h2:=ih (inW (N + b.w0) b.es)
     have h3:=h1 b.es (N + b.w0)
     omega
    ·exact Nat.le_refl _
  unfold outW at h
  split at h
  ·have h1:=hle r (inW (N + a.w0) a.es)
   have h2:=inW_all a.es (N + a.w0) (by omega)
   rcases List.mem_cons.1 hm with rfl | hm
   ·omega
   ·have:=outW_ge r _ h nd hm
    omega
  ·omega
theorem aB_len (es : List Ent) : (aB es).length = 9 * es.length + (es.map fun a => a.2.1.size + a.2.2.size).sum:=by
 induction es with
 | nil => rfl
 | cons a r ih =>
  rw [aB,List.flatMap_cons,List.length_append,entB_len,← aB,ih]
  simp
  omega
structure Nd.rng (nd : Nd) : Prop where
 p : ∀ a ∈ nd.es,-128 ≤ a.1∧a.1 ≤ 127
 x : XOk nd.x
theorem ok_of {l : List Nd} (hw : wideB l = false) (hr : ∀ nd ∈ l,nd.rng) : ∀ nd ∈ l,nd.ok:=by
 intro nd hm
 have h : outW l.length l < 16777216:=by
  have:=of_decide_eq_false hw
  omega
 have h1:=outW_ge l _ h nd hm
 have h2:=aB_len nd.es
 unfold Nd.w0 at h1
 exact ⟨by omega,by omega,(hr nd hm).p,(hr nd hm).x⟩
theorem small_of {l : List Nd} (hok : ∀ nd ∈ l,nd.ok) : ∀ nd ∈ l,nd.small:=fun nd hm => ⟨by have:=(hok nd hm).b;omega,by have:=(hok nd hm).m;omega⟩
end Go.Abs
end
section
namespace Go.Abs
open Go.Proofs
set_option maxRecDepth 100000
def tR : List (Nat × Value):=[(0,.chan (some 1)),(2,.bool false)]
def gW (l : List Nd) : List Value → Hp → Option (List Value × ConW × Prop):=fun args _ => some (args,K4 l,True)
noncomputable def q3 (l : List Nd) : Sm:=withL (withQ sm0 4 (fnP (gW l))) 3 [1,1] (piece 124 tR (oN0 l.length (nodesD l)) 2 .ret (mkFr 124 [(2,.bool true)]) (mkHp 2 []))
theorem c3w_came (l : List Nd) (h0 : wideB l = true) :
  RanC (runO Tryz.prog E1 (withQ sm0 4 (fnP (gW l))) noRun 100 3 [Value.chan (some 1)] (mkHp 2 (wordsOs [Wd.d (nodesD l) (List.length l)] 0 fun n => n)) [.skip 3,.b true] True) (.returned (Value.bool true)) [(0,AObj.ro (nodesD l)),(1,AObj.word (List.length l) 0)] 2 :=
 cameCF_of (O:=((True∧True∧[Value.chan (some 1)] = [Value.chan (some 1)]∧(Wd.len (Wd.d (nodesD l) (List.length l)) = Wd.len (Wd.d (nodesD l) (List.length l))∧nodesD l = nodesD l)∧True)∧wideB l = true)) (by kernel_rfl) ⟨⟨trivial,⟨trivial,⟨rfl,⟨⟨rfl,rfl⟩,trivial⟩⟩⟩⟩,h0⟩
theorem c3b_came (l : List Nd) (h0 : wideB l = false) :
  RanC (runO Tryz.prog E1 (q3 l) noRun 100 3 [Value.chan (some 1)] (mkHp 2 (wordsOs [Wd.d (nodesD l) (List.length l)] 0 fun n => n)) [.skip 3,.b false] True) (.returned (Value.bool true)) [] 2 :=
 cameCF_of (O:=(((True∧True∧[Value.chan (some 1)] = [Value.chan (some 1)]∧(Wd.len (Wd.d (nodesD l) (List.length l)) = Wd.len (Wd.d (nodesD l) (List.length l))∧nodesD l = nodesD l)∧True)∧wideB l = false)∧SelfP 124 tR (oN0 (List.length l) (nodesD l)) 2)) (by kernel_rfl) ⟨⟨⟨trivial,⟨trivial,⟨rfl,⟨⟨rfl,rfl⟩,trivial⟩⟩⟩⟩,h0⟩,selfP_true _ _ _ _⟩
def S5g (n c : Nat) (μ1 : Hp) (Q : List Value → Hp → Prop) : SumO:=fun args μ => some (.returned (.slice (some ⟨2,0,none⟩) n c),μ1,Q args μ)
noncomputable def regRun (n c : Nat) (μ0 μ1 : Hp) (Q : List Value → Hp → Prop):=codeF Tryz.prog E1 (withS sm0 5 (S5g n c μ1 Q)) noRun 100 3 [0,1,1] (codeAt Tryz.f3 [0,1,1]) (mkFr 124 tR) μ0 [] True
theorem regRun1 (n c : Nat) (μ0 μ1 : Hp) (Q : List Value → Hp → Prop) : (regRun n c μ0 μ1 Q).map (fun r => (r.1,r.2.2)) = some (.normal,μ1,[],True∧Q [.chan (some 1)] μ0):=by kernel_rfl
theorem regRun2 (n c : Nat) (μ0 μ1 : Hp) (Q : List Value → Hp → Prop) : (regRun n c μ0 μ1 Q).map (fun r => (r.2.1.sz,r.2.1.df,r.2.1.get 0,r.2.1.get 2,r.2.1.get 3)) = some (124,[],.chan (some 1),.bool false,.slice (some ⟨2,0,none⟩) n c):=by kernel_rfl
theorem regRun_ok (n c : Nat) (μ0 μ1 : Hp) (Q : List Value → Hp → Prop) : ∃ fr',codeF Tryz.prog E1 (withS sm0 5 (S5g n c μ1 Q)) noRun 100 3 [0,1,1] (codeAt Tryz.f3 [0,1,1]) (mkFr 124 tR) μ0 [] True = some (.normal,fr',μ1,[],True∧Q [.chan (some 1)] μ0)∧fr'.sz = 124∧fr'.df = []∧fr'.get 0 = .chan (some 1)∧fr'.get 2 = .bool false∧fr'.get 3 = .slice (some ⟨2,0,none⟩) n c:=by
 have hb:=regRun1 n c μ0 μ1 Q
 have hc:=regRun2 n c μ0 μ1 Q
 obtain ⟨r,hr⟩ : ∃ r,regRun n c μ0 μ1 Q = some r:=by
  cases h : regRun n c μ0 μ1 Q with
  | none => rw [h] at hb;cases hb
  | some r => exact ⟨r,rfl⟩
 rw [hr,Option.map_some,Option.some.injEq] at hb hc
 obtain ⟨e,fr',m,orc,O⟩:=r
 simp only [Prod.mk.injEq] at hb hc
 obtain ⟨rfl,rfl,rfl,rfl⟩:=hb
 exact ⟨fr',hr,hc⟩
theorem S5_ok {pr : Prot} {w0 : World} (hG : Tab pr w0) {l : List Nd} (hl : l.length < 16777216) (hs : ∀ nd ∈ l,nd.small) : SumOk Tryz.prog pr w0 0 5 (S5g l.length (2 * (l.length + 64) - 0) (fW l) fun args μ => args = [.chan (some 1)]∧μ = mkHp 2 [(0,.ro (nodesD l)),(1,.word l.length 0)]):=by
 intro args μ e μ' p hg hp ι w hS hbd
 simp only [S5g,Option.some.injEq,Prod.mk.injEq] at hg
 obtain ⟨rfl,rfl,rfl⟩:=hg
 obtain ⟨rfl,rfl⟩:=hp
 exact con5N hl hs pr w0 hG ι w hS
theorem shapeR : codeAt Tryz.f3 [1,1] = .seq (codeAt Tryz.f3 [0,1,1]) (.seq (codeAt Tryz.f3 [0,1,1,1]) (.seq (codeAt Tryz.f3 [0,1,1,1,1]) (.seq (codeAt Tryz.f3 [0,1,1,1,1,1]) (codeAt Tryz.f3 [1,1,1,1,1,1])))):=by kernel_rfl
theorem lawRest {l : List Nd} (hl : l.length < 16777216) (hok : ∀ nd ∈ l,nd.ok) (hs : ∀ nd ∈ l,nd.small) {pr : Prot} {w0 : World} (hG : TabZ pr w0) :
  Tri Tryz.prog pr w0 2 (codeAt Tryz.f3 [1,1]) (mkFr 124 tR) (mkHp 2 (oN0 l.length (nodesD l))) fun e f m => e = .ret∧f = mkFr 124 [(2,.bool true)]∧m = mkHp 2 []:=by
 have h1 : Tri Tryz.prog pr w0 2 (codeAt Tryz.f3 [0,1,1]) (mkFr 124 tR) (mkHp 2 (oN0 l.length (nodesD l))) fun e f m => e = .normal∧f = mkFr 124 (tB l.length (2 * (l.length + 64) - 0))∧m = mkHp 400000000 (oK l (K0 l)):=by
  obtain ⟨fr',hr,f1,f2,f3,f4,f5⟩:=regRun_ok l.length (2 * (l.length + 64) - 0) (mkHp 2 (oN0 l.length (nodesD l))) (fW l) fun args μ => args = [.chan (some 1)]∧μ = mkHp 2 [(0,.ro (nodesD l)),(1,.word l.length 0)]
  rw [codeF_eq] at hr
  have h0:=tri_code hP1.hE hP1.ng hP1.mix (withS_ok (sm0_ok pr w0) (S5_ok hG.1 hl hs)) noRun_ok (hhX [0,1,1] (by kernel_rfl)) hr (show True∧([Value.chan (some 1)] = [.chan (some 1)]∧mkHp 2 (oN0 l.length (nodesD l)) = mkHp 2 [(0,.ro (nodesD l)),(1,.word l.length 0)]) from ⟨trivial,rfl,rfl⟩) 2
  refine tri_turn (by simp) (fun n => n) h0 (fun _ _ => rfl) (by simp [mkHp]) ?_ ⟨f1.symm,fun t ht => ?_,f2,rfl⟩ ⟨rfl,rfl,rfl⟩
  ·rw [fW,nest_K0,← nest_K0]
   have hb:=nest_bd hl (m:=l.length + 64) (k:=l.length + 64)
   have hg : ∀ n,(mkHp 400000000 (oNest l (l.length + 64) (l.length + 64))).get n = look (oNest l (l.length + 64) (l.length + 64)) n:=fun n => hp_get (nest_small hl _ _) n
   refine ⟨fun n o h => ?_,fun n o h => by rw [upO_id];exact h,fun n o h => ?_,fun n m o o' _ _ _ _ h => h,by simp only [mkHp];decide⟩
   ·rw [hg] at h;exact (hb _ (look_mem _ _ _ h)).1
   ·rw [hg] at h;exact (hb _ (look_mem _ _ _ h)).2
  ·rw [mkFr_get rfl] at ht ⊢
   rw [upV_id]
   cases hlk : look (tB l.length (2 * (l.length + 64) - 0)) t with
   | none => rw [hlk] at ht;cases ht
   | some v =>
    have hm:=look_mem _ _ _ hlk
    have hbd:=(tB_ok _ _ _ hm).1
    simp only [tB,List.mem_cons,List.not_mem_nil,or_false,Prod.mk.injEq] at hm
    rcases hm with ⟨rfl,rfl⟩ | ⟨rfl,rfl⟩ | ⟨rfl,rfl⟩
    ·exact ⟨f3,hbd⟩
    ·exact ⟨f4,hbd⟩
    ·exact ⟨f5,hbd⟩
 rw [shapeR]
 refine tri_seq h1 (tri_seq (lawA1 hl hok hs hG.1 _) (tri_seq (lawA2 hl hs hG.1) (tri_seqE (loop2 hl hs (good_K0 fun nd hm => (hok nd hm).p) _ hG.1 (by decide)) ?_ (fun e f m hne h => absurd h.1 hne))))
 rintro f m ⟨_,rfl,K',hK',rfl⟩
 obtain ⟨l',hlen,hh⟩:=allGood_list hK'
 have hel : ∀ j (h : j < l.length) (h' : j < l'.length),l'[j].es.length = l[j].es.length:=fun j h h' => by
  have:=congrArg List.length (hh j h h').2.2.2.1;simpa using this
 have hok' : ∀ nd ∈ l',nd.ok:=by
  intro nd hm
  obtain ⟨j,hj,rfl⟩:=List.getElem_of_mem hm
  have hj2 : j < l.length:=by omega
  obtain ⟨h1,h2,h3,h4,h5,_,_⟩:=hh j hj2 hj
  have hk:=hok l[j] (List.getElem_mem hj2)
  have he:=hel j hj2 hj
  refine ⟨?_,by rw [he];exact hk.m,h5,by rw [h2];exact hk.x⟩
  have hb:=hk.b
  rw [aB_len] at hb ⊢
  rw [h1,h3,he]
  have e : ∀ es : List Ent,(es.map fun a => a.2.1.size + a.2.2.size) = (es.map fun e => e.2).map fun s => s.1.size + s.2.size:=fun es => by rw [List.map_map];rfl
  rw [e,h4,← e]
  exact hb
 refine (lawB hl hlen hok' (small_of hok') (fun j h h' => ?_) _ hG (N:=2)).weaken ?_
 ·obtain ⟨h1,h2,h3,_,_,h6,h7⟩:=hh j h h'
  exact ⟨h1,h2,h3,hel j h h',h6,h7⟩
 ·rintro e f m ⟨rfl,rfl,rfl⟩
  refine .inr ⟨fun n => n,mkFr 124 [(2,.bool true)],mkHp 2 [],fun _ _ => rfl,by simp [mkHp],?_,?_,by simp,rfl,rfl,rfl⟩
  ·exact keeps_list (oK_small hl _) rfl (fun p hp => by cases hp) (fun p hp => by cases hp) (by decide)
  ·exact keepsF_list rfl rfl fun p hp => by
    simp only [List.mem_cons,List.not_mem_nil,or_false] at hp
    subst hp
    exact ⟨by simp,by simp [look,upV]⟩
def kn3 (l : List Nd) : ConW:=⟨fun X => [X 0],[.d (nodesD l) l.length],fun _ => .bool true,fun _ => []⟩
theorem wide_ok {pr : Prot} {w0 : World} (hG : TabZ pr w0) {l : List Nd} (hl : l.length ≤ 1125899906842624) (hb : ∀ nd ∈ l,nd.big) : SumOk Tryz.prog pr w0 0 4 (pureS (fnP (gW l))):=by
 refine fnP_ok tabz_stands hG fun args μ X k p h hp => ?_
 unfold gW at h
 cases h
 exact ⟨(con4 hl hb).toZ,fun _ => rfl,fun _ => rfl,pure_bool _⟩
theorem con3 {l : List Nd} (hl : l.length ≤ 1125899906842624) (hb : ∀ nd ∈ l,nd.big) (hr : ∀ nd ∈ l,nd.rng) : ConWG TabZ Tryz.prog 3 (kn3 l):=by
 have hA : ∀ (x : Value),x ∈ [Value.chan (some 1)] → Bd 2 x:=by simp
 have ap : ∀ (ι ι' : Ren) (f g : Nat → Value),(∀ i,i < 1 → conc ι (f i) = conc ι' (g i)) → ([f 0]).map (conc ι) = ([g 0]).map (conc ι'):=by
  intro ι ι' f g h
  simp [h 0 (by decide)]
 cases hw : wideB l with
 | true =>
  exact conW_read (args:=fun X => [X 0]) (ws:=[.d (nodesD l) l.length]) (s:=withQ sm0 4 (fnP (gW l))) hP1 (fun pr w0 hG => withQ_ok (sm0_ok pr w0) (wide_ok hG hl hb)) (c3w_came l hw) (by simp [limit]) ⟨rfl,rfl,by simp,by simp [BdO],by decide,by simp⟩ hA (pure_bool _) ap (fun _ => by simp [upV])
 | false =>
  have kl:=ok_of hw hr
  have hlen : l.length < 16777216:=by
   have h1:=of_decide_eq_false hw
   cases l with
   | nil => simp
   | cons a r =>
    have:=outW_ge (a :: r) (a :: r).length (by omega) a (List.mem_cons_self ..)
    omega
  have hs:=small_of kl
  exact conW_read (args:=fun X => [X 0]) (ws:=[.d (nodesD l) l.length]) hP1 (fun pr w0 hG => withL_ok (withQ_ok (sm0_ok pr w0) (wide_ok hG hl hb)) (fn:=Tryz.f3) (c:=codeAt Tryz.f3 [1,1]) (by kernel_rfl) (by kernel_rfl) (piece_ok (by simp) rfl rfl (by simp [tR]) (by simp [oN0,BdO]) (by decide) (lawRest hlen kl hs hG)))
   (c3b_came l hw) (by simp [limit]) ⟨rfl,rfl,by simp,by simp,by decide,by simp⟩ hA (pure_bool _) ap (fun _ => by simp [upV])
end Go.Abs
end
section
namespace Go.Abs
open Go.Proofs Go.ChangeShapes Go.WideShapes Go.ChangeAt Go.RowKit
set_option maxRecDepth 100000
def Ref (d d' : Deep) : Prop:=∀ (w : World) (v : Value),DeepOk (fun _ => True) w d v → DeepOk (fun _ => True) w d' v
def RefL (ds ds' : List Deep) : Prop:=ds.length = ds'.length∧∀ (i : Nat) (d d' : Deep),ds[i]? = some d → ds'[i]? = some d' → Ref d d'
theorem Ref.refl (d : Deep) : Ref d d:=fun _ _ h => h
section
variable {P : Program} {R : Nat} {n : Nat} {t : TypeId}
theorem fitInt {k : IntKind} {ds : List Deep} (ht : P.underlying t = some (.int k)) (hf : FitD P R n t ds) : ∃ i,ds = [.val (.int k i)]∧(Lit.int k i).wf = true:=by
 cases n with
 | zero => exact hf.elim
 | succ n => unfold FitD at hf;rw [ht] at hf;exact hf
theorem fitStr {ds : List Deep} (ht : P.underlying t = some .string) (hf : FitD P R n t ds) : ∃ s : ByteArray,ds = [.val (.string s)]∧s.size ≤ R:=by
 cases n with
 | zero => exact hf.elim
 | succ n =>
  unfold FitD at hf;rw [ht] at hf
  obtain ⟨s,h1,_,h2⟩:=hf
  exact ⟨s,h1,h2⟩
theorem fitSlice {e : TypeId} {ds : List Deep} (ht : P.underlying t = some (.slice e)) (hb : 1 ≤ P.bytesOf e) (hf : FitD P R n t ds) :
  ∃ d m es len,ds = [d]∧Ref d (.sl es len)∧es.length = len * P.cellsOf e∧len ≤ R∧∀ i,i < len → FitD P R m e ((es.drop (i * P.cellsOf e)).take (P.cellsOf e)):=by
 cases n with
 | zero => exact hf.elim
 | succ n =>
  unfold FitD at hf;rw [ht] at hf
  rcases hf with rfl | ⟨sp,rfl⟩ | ⟨es,len,cap,rfl,h1,h2,h3,h4,h5,h6⟩
  ·refine ⟨_,0,[],0,rfl,fun w v h => ?_,by simp,Nat.zero_le _,fun i hi => absurd hi (by omega)⟩
   rw [deepOk_val] at h
   rw [deepOk_sl]
   exact .inl ⟨rfl,rfl,none,0,h.1⟩
  ·refine ⟨_,0,[],0,rfl,fun w v h => ?_,by simp,Nat.zero_le _,fun i hi => absurd hi (by omega)⟩
   rw [deepOk_void] at h
   obtain ⟨b,o,rfl⟩:=h
   rw [deepOk_sl]
   exact .inl ⟨rfl,rfl,_,_,rfl⟩
  ·refine ⟨_,n,es.take (len * P.cellsOf e),len,rfl,fun w v h => ?_,?_,?_,fun i hi => ?_⟩
   ·rw [deepOk_row] at h
    obtain ⟨b,o,rfl,hc⟩:=h
    rw [deepOk_sl]
    refine .inr ⟨b,o,cap,rfl,fun i hi => ?_⟩
    rw [List.length_take] at hi
    rw [List.getElem_take]
    exact hc i (by omega)
   ·rw [List.length_take,h5,Nat.min_eq_left (Nat.mul_le_mul_right _ h1)]
   ·have : cap * 1 ≤ cap * P.bytesOf e:=Nat.mul_le_mul_left _ hb
    omega
   ·have hle : i * P.cellsOf e + P.cellsOf e ≤ len * P.cellsOf e:=by rw [← Nat.succ_mul];exact Nat.mul_le_mul_right _ hi
    rw [List.drop_take,List.take_take,Nat.min_eq_left (by omega)]
    exact h6 i (by omega)
end
theorem choose_list {α : Type} (x0 : α) {Q : Nat → α → Prop} : ∀ (n : Nat),(∀ j,j < n → ∃ x,Q j x) → ∃ l : List α,l.length = n∧∀ j,j < n → Q j (l.getD j x0)
 | 0,_ => ⟨[],rfl,fun j hj => absurd hj (by omega)⟩
 | n + 1,h => by
  obtain ⟨l,hl,hq⟩:=choose_list x0 n fun j hj => h j (by omega)
  obtain ⟨x,hx⟩:=h n (by omega)
  refine ⟨l ++ [x],by simp [hl],fun j hj => ?_⟩
  by_cases hjn : j < n
  ·rw [List.getD_eq_getElem?_getD,List.getElem?_append_left (by omega),← List.getD_eq_getElem?_getD];exact hq j hjn
  ·have : j = n:=by omega
   subst this
   rw [List.getD_eq_getElem?_getD,List.getElem?_append_right (by omega),hl,Nat.sub_self]
   exact hx
theorem rows_split {α : Type} {es : List α} {s : Nat} : ∀ {n : Nat},es.length = n * s → es = rows (fun j => (es.drop (j * s)).take s) n:=by
 intro n h
 have key : ∀ k,k ≤ n → rows (fun j => (es.drop (j * s)).take s) k = es.take (k * s):=by
  intro k
  induction k with
  | zero => intro _;simp [rows]
  | succ k ih =>
   intro hk
   rw [rows_succ,ih (by omega),Nat.succ_mul,List.take_add]
 rw [key n (Nat.le_refl _),List.take_of_length_le (by omega)]
theorem ref_vals {vs : List Value} {len : Nat} (h : ∀ v ∈ vs,Pure v) : Ref (.sl (vs.map .val) len) (.slv vs len):=by
 intro w v hd
 rw [deepOk_sl] at hd
 rw [deepOk_slv]
 rcases hd with ⟨h1,h2,h3⟩ | ⟨b,o,c,rfl,hc⟩
 ·exact .inl ⟨h1,by simpa using h2,h3⟩
 ·refine .inr ⟨b,o,c,rfl,fun i u hu => ?_⟩
  have hi : i < vs.length:=(List.getElem?_eq_some_iff.1 hu).1
  obtain ⟨g1,g2,u',g3,g4⟩:=hc i (by simpa using hi)
  rw [List.getElem_map,deepOk_val] at g4
  have e : vs[i] = u:=by rw [List.getElem?_eq_getElem hi] at hu;exact Option.some.inj hu
  rw [e] at g4
  obtain ⟨rfl,hp⟩:=g4
  exact ⟨g1,g2,g3,hp⟩
theorem Ref.trans {a b c : Deep} (h : Ref a b) (h' : Ref b c) : Ref a c:=fun w v hv => h' w v (h w v hv)
theorem wf_rng {k : IntKind} {i : Int} (h : (Lit.int k i).wf = true) : k.min ≤ i∧i ≤ k.max:=by
 simpa [Lit.wf] using h
theorem c5' : Tryz.prog.cellsOf 5 = 1:=by kernel_rfl
theorem c9' : Tryz.prog.cellsOf 9 = 1:=by kernel_rfl
theorem c21' : Tryz.prog.cellsOf 21 = 1:=by kernel_rfl
theorem c30' : Tryz.prog.cellsOf 27 = 1:=by kernel_rfl
theorem c31' : Tryz.prog.cellsOf 28 = 1:=by kernel_rfl
theorem c34' : Tryz.prog.cellsOf 31 = 2:=by kernel_rfl
theorem c36' : Tryz.prog.cellsOf 33 = 12:=by kernel_rfl
theorem c38' : Tryz.prog.cellsOf 35 = 16:=by kernel_rfl
theorem c40' : Tryz.prog.cellsOf 39 = 2:=by kernel_rfl
theorem c41' : Tryz.prog.cellsOf 37 = 1:=by kernel_rfl
theorem c43' : Tryz.prog.cellsOf 41 = 3:=by kernel_rfl
theorem c32' : Tryz.prog.cellsOf 29 = 1:=by kernel_rfl
theorem c2' : Tryz.prog.cellsOf 2 = 1:=by kernel_rfl
theorem c3' : Tryz.prog.cellsOf 3 = 1:=by kernel_rfl
theorem b5' : 1 ≤ Tryz.prog.bytesOf 5:=of_decide_eq_true (by kernel_rfl)
theorem b43' : 1 ≤ Tryz.prog.bytesOf 41:=of_decide_eq_true (by kernel_rfl)
theorem b38' : 1 ≤ Tryz.prog.bytesOf 35:=of_decide_eq_true (by kernel_rfl)
theorem len3 {α : Type} : ∀ {l : List α},l.length = 3 → ∃ a b c,l = [a,b,c]
 | [a,b,c],_ => ⟨a,b,c,rfl⟩
theorem len16 {α : Type} : ∀ {l : List α},l.length = 16 → ∃ a0 a1 a2 a3 a4 a5 a6 a7 a8 a9 a10 a11 a12 a13 a14 a15,l = [a0,a1,a2,a3,a4,a5,a6,a7,a8,a9,a10,a11,a12,a13,a14,a15]
 | [a0,a1,a2,a3,a4,a5,a6,a7,a8,a9,a10,a11,a12,a13,a14,a15],_ => ⟨a0,a1,a2,a3,a4,a5,a6,a7,a8,a9,a10,a11,a12,a13,a14,a15,rfl⟩
section
variable {R n : Nat}
theorem fit30 {ds : List Deep} (hf : FitD Tryz.prog R n 27 ds) : ∃ d bs,ds = [d]∧Ref d (.slv (bv bs) bs.length)∧bs.length ≤ R:=by
 obtain ⟨d,m,es,len,rfl,hr,hl,hR,he⟩:=fitSlice Tryz.underlying27 b5' hf
 rw [c5'] at hl he
 obtain ⟨bs,hbl,hb⟩:=choose_list (0 : Int) len (Q:=fun j x => (es.drop (j * 1)).take 1 = [.val (.int .u8 x)]) fun j hj => by
  obtain ⟨i,hi,_⟩:=fitInt Tryz.underlying5 (he j hj)
  exact ⟨i,hi⟩
 have e : es = (bv bs).map .val:=by
  rw [rows_split hl,bv_rows,hbl,rows_map]
  exact rows_ext fun j hj => hb j hj
 refine ⟨d,bs,rfl,?_,by omega⟩
 rw [e] at hr
 rw [hbl]
 exact hr.trans (ref_vals fun v hv => by
  obtain ⟨b,_,rfl⟩:=List.mem_map.1 hv
  exact pure_int _ _)
theorem fit43 {ds : List Deep} (hf : FitD Tryz.prog R n 41 ds) : ∃ e : Ent,ds = (cellA e).map .val∧e.2.1.size ≤ R∧e.2.2.size ≤ R∧-128 ≤ e.1∧e.1 ≤ 127:=by
 obtain ⟨m,rfl,hl,hfs⟩:=fit_field Tryz.underlying41 hf
 rw [c43'] at hl
 obtain ⟨a,b,c,rfl⟩:=len3 hl
 have h0:=fit_part hfs (i:=0) rfl (u:=37) rfl c41'
 have h1:=fit_part hfs (i:=1) rfl (u:=39) rfl c40'
 obtain ⟨p,hp,hw⟩:=fitInt Tryz.underlying37 h0
 obtain ⟨k,rfl,_,gfs⟩:=fit_field Tryz.underlying39 h1
 have g0:=fit_part gfs (i:=0) rfl (u:=9) rfl c9'
 have g1:=fit_part gfs (i:=1) rfl (u:=9) rfl c9'
 obtain ⟨s,hs,hsR⟩:=fitStr Tryz.underlying9 g0
 obtain ⟨d,hd,hdR⟩:=fitStr Tryz.underlying9 g1
 have hw:=wf_rng hw
 simp at hp hs hd
 subst hp;subst hs;subst hd
 exact ⟨(p,s,d),rfl,hsR,hdR,hw.1,hw.2⟩
theorem fit31 {ds : List Deep} (hf : FitD Tryz.prog R n 28 ds) : ∃ d es,ds = [d]∧Ref d (.slv (av es) es.length)∧es.length ≤ R∧∀ a ∈ es,a.2.1.size ≤ R∧a.2.2.size ≤ R∧-128 ≤ a.1∧a.1 ≤ 127:=by
 obtain ⟨d,m,es,len,rfl,hr,hl,hR,he⟩:=fitSlice Tryz.underlying28 b43' hf
 rw [c43'] at hl he
 obtain ⟨al,hal,ha⟩:=choose_list ((0,⟨#[]⟩,⟨#[]⟩) : Ent) len (Q:=fun j e => (es.drop (j * 3)).take 3 = (cellA e).map .val∧e.2.1.size ≤ R∧e.2.2.size ≤ R∧-128 ≤ e.1∧e.1 ≤ 127) fun j hj => fit43 (he j hj)
 have e : es = (av al).map .val:=by
  rw [rows_split hl,av,hal,rows_map]
  exact rows_ext fun j hj => (ha j hj).1
 refine ⟨d,al,rfl,?_,by omega,fun a hm => ?_⟩
 ·rw [e] at hr
  rw [hal]
  refine hr.trans (ref_vals fun v hv => ?_)
  obtain ⟨j,_,hj⟩:=rows_mem hv
  simp [cellA] at hj
  rcases hj with rfl | rfl | rfl
  ·exact pure_int _ _
  ·exact fun ι => by simp
  ·exact fun ι => by simp
 ·obtain ⟨j,hj,rfl⟩:=List.getElem_of_mem hm
  have:=(ha j (by omega)).2
  rwa [List.getD_eq_getElem?_getD,List.getElem?_eq_getElem hj] at this
theorem fit34 {ds : List Deep} (hf : FitD Tryz.prog R n 31 ds) : ∃ a b,ds = [.val (.int .u32 a),.val (.int .u32 b)]:=by
 obtain ⟨m,rfl,hl,hfs⟩:=fit_field Tryz.underlying31 hf
 rw [c34'] at hl
 match ds,hl with
 | [x,y],_ =>
  obtain ⟨a,ha,_⟩:=fitInt Tryz.underlying29 (fit_part hfs (i:=0) rfl (u:=29) rfl c32')
  obtain ⟨b,hb,_⟩:=fitInt Tryz.underlying29 (fit_part hfs (i:=1) rfl (u:=29) rfl c32')
  simp at ha hb
  subst ha;subst hb
  exact ⟨a,b,rfl⟩
theorem len12 {α : Type} : ∀ {l : List α},l.length = 12 → ∃ a0 a1 a2 a3 a4 a5 a6 a7 a8 a9 a10 a11,l = [a0,a1,a2,a3,a4,a5,a6,a7,a8,a9,a10,a11]
 | [a0,a1,a2,a3,a4,a5,a6,a7,a8,a9,a10,a11],_ => ⟨a0,a1,a2,a3,a4,a5,a6,a7,a8,a9,a10,a11,rfl⟩
theorem fit36 {ds : List Deep} (hf : FitD Tryz.prog R n 33 ds) : ∃ x0 x1 x2 x3 x4 x5 x6 x7 x8 x9 x10 x11,ds = [.val (.int .u32 x0),.val (.int .u32 x1),.val (.int .u32 x2),.val (.int .u32 x3),.val (.int .u32 x4),.val (.int .u32 x5),.val (.int .i32 x6),.val (.int .i32 x7),.val (.int .i32 x8),.val (.int .i64 x9),.val (.int .i64 x10),.val (.int .i64 x11)] ∧
  (IntKind.i32.min ≤ x6∧x6 ≤ IntKind.i32.max)∧(IntKind.i32.min ≤ x7∧x7 ≤ IntKind.i32.max)∧(IntKind.i32.min ≤ x8∧x8 ≤ IntKind.i32.max)∧(IntKind.i64.min ≤ x9∧x9 ≤ IntKind.i64.max):=by
 obtain ⟨m,rfl,hl,hfs⟩:=fit_field Tryz.underlying33 hf
 rw [c36'] at hl
 obtain ⟨a0,a1,a2,a3,a4,a5,a6,a7,a8,a9,a10,a11,rfl⟩:=len12 hl
 obtain ⟨x0,x1,e0⟩:=fit34 (fit_part hfs (i:=0) rfl (u:=31) rfl c34')
 obtain ⟨x2,x3,e1⟩:=fit34 (fit_part hfs (i:=1) rfl (u:=31) rfl c34')
 obtain ⟨x4,x5,e2⟩:=fit34 (fit_part hfs (i:=2) rfl (u:=31) rfl c34')
 obtain ⟨x6,e6,w6⟩:=fitInt Tryz.underlying21 (fit_part hfs (i:=3) rfl (u:=21) rfl c21')
 obtain ⟨x7,e7,w7⟩:=fitInt Tryz.underlying21 (fit_part hfs (i:=4) rfl (u:=21) rfl c21')
 obtain ⟨x8,e8,w8⟩:=fitInt Tryz.underlying21 (fit_part hfs (i:=5) rfl (u:=21) rfl c21')
 obtain ⟨x9,e9,w9⟩:=fitInt Tryz.underlying2 (fit_part hfs (i:=6) rfl (u:=2) rfl c2')
 obtain ⟨x10,e10,_⟩:=fitInt Tryz.underlying3 (fit_part hfs (i:=7) rfl (u:=3) rfl c3')
 obtain ⟨x11,e11,_⟩:=fitInt Tryz.underlying3 (fit_part hfs (i:=8) rfl (u:=3) rfl c3')
 simp at e0 e1 e2 e6 e7 e8 e9 e10 e11
 obtain ⟨rfl,rfl⟩:=e0
 obtain ⟨rfl,rfl⟩:=e1
 obtain ⟨rfl,rfl⟩:=e2
 subst e6;subst e7;subst e8;subst e9;subst e10;subst e11
 exact ⟨x0,x1,x2,x3,x4,x5,x6,x7,x8,x9,x10,x11,rfl,wf_rng w6,wf_rng w7,wf_rng w8,wf_rng w9⟩
def xsI (l : List Int) : Nat → Int:=fun i => l.getD i 0
theorem refL_cons {a b : Deep} {ds es : List Deep} (h : Ref a b) (h' : RefL ds es) : RefL (a :: ds) (b :: es):=by
 refine ⟨by simp [h'.1],fun i d d' hd hd' => ?_⟩
 cases i with
 | zero => simp at hd hd';subst hd;subst hd';exact h
 | succ i => exact h'.2 i d d' (by simpa using hd) (by simpa using hd')
theorem refL_refl (ds : List Deep) : RefL ds ds:=⟨rfl,fun i d d' h h' => by rw [h] at h';cases h';exact Ref.refl _⟩
theorem fit38 (hRR : R ≤ 1125899906842624) {ds : List Deep} (hf : FitD Tryz.prog R n 35 ds) : ∃ nd : Nd,RefL ds nd.d∧nd.big∧nd.rng:=by
 obtain ⟨m,rfl,hl,hfs⟩:=fit_field Tryz.underlying35 hf
 rw [c38'] at hl
 obtain ⟨a0,a1,a2,a3,a4,a5,a6,a7,a8,a9,a10,a11,a12,a13,a14,a15,rfl⟩:=len16 hl
 obtain ⟨nm,e0,hnm⟩:=fitStr Tryz.underlying9 (fit_part hfs (i:=0) rfl (u:=9) rfl c9')
 obtain ⟨d,bs,e1,r1,hbs⟩:=fit30 (fit_part hfs (i:=1) rfl (u:=27) rfl c30')
 obtain ⟨d',es,e2,r2,hes,hees⟩:=fit31 (fit_part hfs (i:=2) rfl (u:=28) rfl c31')
 obtain ⟨x0,x1,x2,x3,x4,x5,x6,x7,x8,x9,x10,x11,e3,w6,w7,w8,w9⟩:=fit36 (fit_part hfs (i:=3) rfl (u:=33) rfl c36')
 obtain ⟨x12,e12,w12⟩:=fitInt Tryz.underlying21 (fit_part hfs (i:=4) rfl (u:=21) rfl c21')
 have w12:=wf_rng w12
 simp at e0 e1 e2 e3 e12
 subst e0;subst e1;subst e2;subst e12
 obtain ⟨rfl,rfl,rfl,rfl,rfl,rfl,rfl,rfl,rfl,rfl,rfl,rfl⟩:=e3
 refine ⟨⟨nm,bs,es,xsI [x0,x1,x2,x3,x4,x5,x6,x7,x8,x9,x10,x11,x12]⟩,refL_cons (Ref.refl _) (refL_cons r1 (refL_cons r2 (refL_refl _))),⟨?_,?_,?_,fun a ha => ?_⟩,fun a ha => ?_,?_⟩
 ·exact Nat.le_trans hnm hRR
 ·exact Nat.le_trans hbs hRR
 ·exact Nat.le_trans hes hRR
 ·have:=hees a ha;exact ⟨Nat.le_trans this.1 hRR,Nat.le_trans this.2.1 hRR⟩
 ·have:=hees a ha;exact this.2.2
 ·exact ⟨w6,w7,w8,w9,w12⟩
theorem fit23 (hRR : R ≤ 1125899906842624) {ds : List Deep} (hf : FitD Tryz.prog R n 22 ds) : ∃ d es l,ds = [d]∧Ref d (.sl es l.length)∧RefL es (nodesD l)∧l.length ≤ R∧∀ nd ∈ l,nd.big∧nd.rng:=by
 obtain ⟨d,m,es,len,rfl,hr,hl,hR,he⟩:=fitSlice Tryz.underlying22 b38' hf
 rw [c38'] at hl he
 obtain ⟨al,hal,ha⟩:=choose_list nd0 len (Q:=fun j (nd : Nd) => RefL ((es.drop (j * 16)).take 16) nd.d∧nd.big∧nd.rng) fun j hj => fit38 hRR (he j hj)
 refine ⟨d,es,al,rfl,by rw [hal];exact hr,⟨by rw [nodesD_len,hal,hl],fun i d d' hd hd' => ?_⟩,by omega,fun a hm => ?_⟩
 ·have hi : i < es.length:=(List.getElem?_eq_some_iff.1 hd).1
  have hq : i / 16 < len:=by omega
  have hr16 : i % 16 < 16:=Nat.mod_lt _ (by decide)
  have hsum : i / 16 * 16 + i % 16 = i:=by omega
  refine (ha (i / 16) hq).1.2 (i % 16) d d' ?_ ?_
  ·rw [List.getElem?_take_of_lt hr16,List.getElem?_drop,hsum];exact hd
  ·have:=rows_get (f:=fun j => (al.getD j nd0).d) (s:=16) (m:=len) (fun _ _ => rfl) hq hr16
   rw [hsum,← hal] at this
   rw [← this]
   exact hd'
 ·obtain ⟨j,hj,rfl⟩:=List.getElem_of_mem hm
  have:=(ha j (by omega)).2
  rwa [List.getD_eq_getElem?_getD,List.getElem?_eq_getElem hj] at this
end
theorem word23 {w : World} {d : Deep} {v : Value} {es : List Deep} {l : List Nd} (hr : Ref d (.sl es l.length)) (hl : RefL es (nodesD l)) (h : DeepOk (fun _ => True) w d v) :
  wordF { loc:=fun _ => (0,0),ext:=fun _ => 0,fz:=fun b => b < w.heap.size,wb:=w } v (Wd.d (nodesD l) l.length):=by
 have hm : ∀ (d : Deep) (v : Value),DeepOk (fun _ => True) w d v → DeepOk (fun b => b < w.heap.size) w d v:=fun d v h => DeepOk.mono (fun b hb _ => ⟨hb,hb,rfl⟩) d v h
 have h1:=hr w v h
 rw [deepOk_sl] at h1
 rcases h1 with ⟨h1,h2,base,c,rfl⟩ | ⟨b,o,c,rfl,hc⟩
 ·refine ⟨base,c,by simp [Wd.len,h1],(0,0),.inl h1,fun i hi => ?_⟩
  rw [nodesD_len,h1] at hi
  exact absurd hi (by omega)
 ·refine ⟨_,c,rfl,(b,o),.inr rfl,fun i hi => ?_⟩
  have hi' : i < es.length:=by rw [hl.1];exact hi
  obtain ⟨g1,_,u,g3,g4⟩:=hc i hi'
  exact ⟨g1,g1,u,g3,hm _ _ (hl.2 i es[i] (nodesD l)[i] (List.getElem?_eq_getElem hi') (List.getElem?_eq_getElem hi) w u g4)⟩
theorem walk {w : World} (hG : TabZ Prot.all w) {R n : Nat} (hRR : R ≤ 1125899906842624) {v1 : Value} {d1 : List Deep} (f1 : FitD Tryz.prog R n 22 d1) (k1 : Hold w d1 [v1]) :
  Calls Tryz.prog 3 #[v1] w fun e w' => e = .returned (.bool true)∧Below w.heap.size w w':=by
 obtain ⟨x1,es1,l1,rfl,r1,s1,n1,b1⟩:=fit23 hRR f1
 have hc:=con3 (l:=l1) (Nat.le_trans n1 hRR) (fun nd h => (b1 nd h).1) (fun nd h => (b1 nd h).2)
 refine callsW (c:=kn3 l1) hG hc (pure_bool _) (fun _ => v1) ?_ ?_
 ·intro i hi
  match i,hi with
  | 0,_ => exact word23 r1 s1 (hold_at k1 (i:=0) rfl rfl)
  | i + 1,hi => exact absurd hi (by simp [kn3])
 ·intro ι' hι
  have e0:=hι 0 (by simp [kn3])
  simp only [Nat.mul_zero,Nat.zero_add] at e0
  simp [kn3,e0]
end Go.Abs
end
