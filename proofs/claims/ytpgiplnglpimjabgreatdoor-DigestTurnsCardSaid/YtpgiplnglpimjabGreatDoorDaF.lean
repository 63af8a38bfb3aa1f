/-
  What the law's functions come to: part F.
-/
import Derived.Test.YtpgiplnglpimjabGreatDoorDaE
import Derived.Test.YtpgiplnglpimjabGreatDoorDaL
import Derived.Test.YtpgiplnglpimjabGreatDoorBmE
set_option linter.unusedVariables false
set_option linter.unusedSimpArgs false
set_option linter.unusedSectionVars false
section
namespace Go.Abs
open Go.Proofs
set_option maxRecDepth 100000
def K6 (d : Int) (g c : List Nd) : ConW := ⟨fun X => [.int .u64 d, X 0, X 1], [.d (prefW g) g.length, .d (prefW c) c.length], fun _ => .int .u64 (addF (subF d g) c), fun _ => []⟩
def K7 (d : Int) (g c : List Nd) : ConW := ⟨fun X => [.int .u64 d, X 0, X 1], [.d (nodesD g) g.length, .d (nodesD c) c.length], fun _ => .int .u64 (subF (addF d c) g), fun _ => []⟩
def K9 (l : List Nd) : Con := ⟨fun σ => [.slice (some ⟨σ 0, 0, none⟩) l.length (2 * (l.length + 64))], oR (rowW l (l.length + 64)), 1, fun _ => .bool true, fun _ => []⟩
def wideG (g c : List Nd) : List Value → Hp → Option (List Value × ConW × Prop) := fun args _ => match args with
  | [.chan (some n)] => bif Nat.beq n 1 then some ([.chan (some n)], K4 g, True) else some ([.chan (some n)], K4 c, True)
  | _ => none
def nodesG (g c : List Nd) : List Value → Hp → Option (List Value × ConW × Prop) := fun args _ => match args with
  | [.chan (some n)] => bif Nat.beq n 1 then some ([.chan (some n)], K5 g, True) else some ([.chan (some n)], K5 c, True)
  | _ => none
def turnG (g c : List Nd) : List Value → Hp → Option (List Value × ConW × Prop) := fun args _ => match args with
  | [.int .u64 d, .slice (some a) n m, y] => bif Nat.beq a.block 6 then some ([.slice (some a) n m, y], K6 d g c, True) else some ([.slice (some a) n m, y], K6 d c g, True)
  | _ => none
def refG (g c : List Nd) : List Value → Hp → Option (List Value × ConW × Prop) := fun args _ => match args with
  | [.int .u64 d, x, y] => some ([x, y], K7 d g c, True)
  | _ => none
def eqG (g c : List Nd) : List Value → Hp → Option (List Value × ConW × Prop) := fun args _ => match args with
  | [.slice (some a) n m, y] => bif Nat.beq a.block 6 then some ([.slice (some a) n m, y], K8 g, True) else some ([.slice (some a) n m, y], K8 c, True)
  | _ => none
def spareS (g c : List Nd) : SumO := fun args μ => match args with
  | [.slice (some a) n m] => bif Nat.beq a.block 6 then pv (K9 g) args μ else pv (K9 c) args μ
  | _ => none
noncomputable def s3w (g c : List Nd) : Sm := withQ sm0 4 (fnP (wideG g c))
noncomputable def s3 (g c : List Nd) : Sm := withQ (withQ (withS (withQ (withQ (withQ (withS sm0 5 (fnW (nodesG g c))) 4 (fnP (wideG g c))) 6 (fnP (turnG g c))) 7 (fnP (refG g c))) 9 (spareS g c)) 8 (fnP (eqG g c))) 10 livesQ
theorem c3a_came (d : Int) (g : List Nd) (c : List Nd) (h0 : wideB g = true) :
    RanC (runO Tryz.prog E1 (s3w g c) noRun 100 3 [Value.int .u64 d, Value.chan (some 1), Value.chan (some 3)] (mkHp 4 (wordsOs [Wd.d (nodesD g) (List.length g), Wd.d (nodesD c) (List.length c)] 0 fun n => n)) [.skip 4, .b false, .b false, .b true] True) (.returned (Value.bool true)) [(0, AObj.ro (nodesD g)), (1, AObj.word (List.length g) 0), (2, AObj.ro (nodesD c)), (3, AObj.word (List.length c) 2)] 4 :=
  cameCF_of (O := ((((True ∧ True ∧ [Value.chan (some 1)] = [Value.chan (some 1)] ∧ (Wd.len (Wd.d (nodesD g) (List.length g)) = Wd.len (Wd.d (nodesD g) (List.length g)) ∧ nodesD g = nodesD g) ∧ True) ∧ (wideB g == false) = false) ∧ (wideB g == false) = false) ∧ wideB g = true)) (by kernel_rfl) ⟨⟨⟨⟨trivial, ⟨trivial, ⟨rfl, ⟨⟨rfl, rfl⟩, trivial⟩⟩⟩⟩, gd h0 rfl⟩, gd h0 rfl⟩, h0⟩
theorem c3b_came (d : Int) (g : List Nd) (c : List Nd) (h0 : wideB g = false) (h1 : wideB c = true) :
    RanC (runO Tryz.prog E1 (s3w g c) noRun 100 3 [Value.int .u64 d, Value.chan (some 1), Value.chan (some 3)] (mkHp 4 (wordsOs [Wd.d (nodesD g) (List.length g), Wd.d (nodesD c) (List.length c)] 0 fun n => n)) [.skip 4, .b true, .skip 1, .b true, .skip 1, .b false, .b true] True) (.returned (Value.bool true)) [(0, AObj.ro (nodesD g)), (1, AObj.word (List.length g) 0), (2, AObj.ro (nodesD c)), (3, AObj.word (List.length c) 2)] 4 :=
  cameCF_of (O := ((((((True ∧ True ∧ [Value.chan (some 1)] = [Value.chan (some 1)] ∧ (Wd.len (Wd.d (nodesD g) (List.length g)) = Wd.len (Wd.d (nodesD g) (List.length g)) ∧ nodesD g = nodesD g) ∧ True) ∧ (wideB g == false) = true) ∧ (wideB g == false) = true) ∧ True ∧ [Value.chan (some 3)] = [Value.chan (some 3)] ∧ (Wd.len (Wd.d (nodesD c) (List.length c)) = Wd.len (Wd.d (nodesD c) (List.length c)) ∧ nodesD c = nodesD c) ∧ True) ∧ wideB g = false) ∧ wideB c = true)) (by kernel_rfl) ⟨⟨⟨⟨⟨⟨trivial, ⟨trivial, ⟨rfl, ⟨⟨rfl, rfl⟩, trivial⟩⟩⟩⟩, gd h0 rfl⟩, gd h0 rfl⟩, ⟨trivial, ⟨rfl, ⟨⟨rfl, rfl⟩, trivial⟩⟩⟩⟩, h0⟩, h1⟩
theorem c3c_came (d : Int) (g : List Nd) (c : List Nd) (h0 : wideB g = false) (h1 : wideB c = false) (h2 : List.take (List.length (prefW g)) (List.drop 0 (rowW g (List.length g + 64))) = prefW g) (h3 : List.take (List.length (prefW c)) (List.drop 0 (rowW c (List.length c + 64))) = prefW c) (h4 : (addF (subF d g) c != subF (addF d c) g) = false) (h5 : (addF (subF (addF (subF d g) c) c) g != d) = false) (h6 : True) :
    RanC (runO Tryz.prog E1 (s3 g c) noRun 100 3 [Value.int .u64 d, Value.chan (some 1), Value.chan (some 3)] (mkHp 4 (wordsOs [Wd.d (nodesD g) (List.length g), Wd.d (nodesD c) (List.length c)] 0 fun n => n)) [.skip 4, .b true, .skip 1, .b true, .skip 1, .b false, .b false, .skip 6, .frz 6, .frz 9, .skip 17, .b true, .skip 1, .b true, .skip 1, .b true, .skip 1, .b false, .b false] True) (.returned (Value.bool true)) [(0, AObj.ro (nodesD g)), (1, AObj.word (List.length g) 0), (2, AObj.ro (nodesD c)), (3, AObj.word (List.length c) 2), (4, AObj.ro (nodesD g)), (5, AObj.word (List.length g) 4), (6, AObj.ro (rowW g (List.length g + 64))), (7, AObj.ro (nodesD c)), (8, AObj.word (List.length c) 7), (9, AObj.ro (rowW c (List.length c + 64)))] 10 :=
  cameCF_of (O := (((((((((((((((((((((True ∧ True ∧ [Value.chan (some 1)] = [Value.chan (some 1)] ∧ (Wd.len (Wd.d (nodesD g) (List.length g)) = Wd.len (Wd.d (nodesD g) (List.length g)) ∧ nodesD g = nodesD g) ∧ True) ∧ (wideB g == false) = true) ∧ (wideB g == false) = true) ∧ True ∧ [Value.chan (some 3)] = [Value.chan (some 3)] ∧ (Wd.len (Wd.d (nodesD c) (List.length c)) = Wd.len (Wd.d (nodesD c) (List.length c)) ∧ nodesD c = nodesD c) ∧ True) ∧ wideB g = false) ∧ wideB c = false) ∧ True ∧ [Value.chan (some 1)] = [Value.chan (some 1)] ∧ (Wd.len (Wd.d (nodesD g) (List.length g)) = Wd.len (Wd.d (nodesD g) (List.length g)) ∧ nodesD g = nodesD g) ∧ True) ∧ True ∧ [Value.chan (some 3)] = [Value.chan (some 3)] ∧ (Wd.len (Wd.d (nodesD c) (List.length c)) = Wd.len (Wd.d (nodesD c) (List.length c)) ∧ nodesD c = nodesD c) ∧ True) ∧ True ∧ [Value.int .u64 d, Value.slice (some ⟨6, 0, none⟩) (List.length g) (2 * (List.length g + 64)), Value.slice (some ⟨9, 0, none⟩) (List.length c) (2 * (List.length c + 64))] = [Value.int .u64 d, Value.slice (some ⟨6, 0, none⟩) (List.length g) (2 * (List.length g + 64)), Value.slice (some ⟨9, 0, none⟩) (List.length c) (2 * (List.length c + 64))] ∧ (Wd.len (Wd.d (prefW g) (List.length g)) = Wd.len (Wd.d (prefW g) (List.length g)) ∧ List.take (List.length (prefW g)) (List.drop 0 (rowW g (List.length g + 64))) = prefW g) ∧ (Wd.len (Wd.d (prefW c) (List.length c)) = Wd.len (Wd.d (prefW c) (List.length c)) ∧ List.take (List.length (prefW c)) (List.drop 0 (rowW c (List.length c + 64))) = prefW c) ∧ True) ∧ True ∧ [Value.int .u64 (addF (subF d g) c), Value.slice (some ⟨9, 0, none⟩) (List.length c) (2 * (List.length c + 64)), Value.slice (some ⟨6, 0, none⟩) (List.length g) (2 * (List.length g + 64))] = [Value.int .u64 (addF (subF d g) c), Value.slice (some ⟨9, 0, none⟩) (List.length c) (2 * (List.length c + 64)), Value.slice (some ⟨6, 0, none⟩) (List.length g) (2 * (List.length g + 64))] ∧ (Wd.len (Wd.d (prefW c) (List.length c)) = Wd.len (Wd.d (prefW c) (List.length c)) ∧ List.take (List.length (prefW c)) (List.drop 0 (rowW c (List.length c + 64))) = prefW c) ∧ (Wd.len (Wd.d (prefW g) (List.length g)) = Wd.len (Wd.d (prefW g) (List.length g)) ∧ List.take (List.length (prefW g)) (List.drop 0 (rowW g (List.length g + 64))) = prefW g) ∧ True) ∧ True ∧ [Value.int .u64 d, Value.chan (some 1), Value.chan (some 3)] = [Value.int .u64 d, Value.chan (some 1), Value.chan (some 3)] ∧ (Wd.len (Wd.d (nodesD g) (List.length g)) = Wd.len (Wd.d (nodesD g) (List.length g)) ∧ nodesD g = nodesD g) ∧ (Wd.len (Wd.d (nodesD c) (List.length c)) = Wd.len (Wd.d (nodesD c) (List.length c)) ∧ nodesD c = nodesD c) ∧ True) ∧ ((addF (subF d g) c != subF (addF d c) g) == false) = true) ∧ ((addF (subF d g) c != subF (addF d c) g) == false) = true) ∧ ((addF (subF d g) c != subF (addF d c) g) == false) = true) ∧ (addF (subF d g) c != subF (addF d c) g) = false) ∧ (addF (subF (addF (subF d g) c) c) g != d) = false) ∧ True ∧ [Value.slice (some ⟨6, 0, none⟩) (List.length g) (2 * (List.length g + 64)), Value.chan (some 1)] = [Value.slice (some ⟨6, 0, none⟩) (List.length g) (2 * (List.length g + 64)), Value.chan (some 1)] ∧ (Wd.len (Wd.d (prefW g) (List.length g)) = Wd.len (Wd.d (prefW g) (List.length g)) ∧ List.take (List.length (prefW g)) (List.drop 0 (rowW g (List.length g + 64))) = prefW g) ∧ (Wd.len (Wd.d (nodesD g) (List.length g)) = Wd.len (Wd.d (nodesD g) (List.length g)) ∧ nodesD g = nodesD g) ∧ True) ∧ ([Value.slice (some ⟨6, 0, none⟩) (List.length g) (2 * (List.length g + 64))] = [Value.slice (some ⟨6, 0, none⟩) (List.length g) (2 * (List.length g + 64))] ∧ true = true ∧ true = true) ∧ rowW g (List.length g + 64) = rowW g (List.length g + 64) ∧ True) ∧ True ∧ [Value.slice (some ⟨9, 0, none⟩) (List.length c) (2 * (List.length c + 64)), Value.chan (some 3)] = [Value.slice (some ⟨9, 0, none⟩) (List.length c) (2 * (List.length c + 64)), Value.chan (some 3)] ∧ (Wd.len (Wd.d (prefW c) (List.length c)) = Wd.len (Wd.d (prefW c) (List.length c)) ∧ List.take (List.length (prefW c)) (List.drop 0 (rowW c (List.length c + 64))) = prefW c) ∧ (Wd.len (Wd.d (nodesD c) (List.length c)) = Wd.len (Wd.d (nodesD c) (List.length c)) ∧ nodesD c = nodesD c) ∧ True) ∧ ([Value.slice (some ⟨9, 0, none⟩) (List.length c) (2 * (List.length c + 64))] = [Value.slice (some ⟨9, 0, none⟩) (List.length c) (2 * (List.length c + 64))] ∧ true = true ∧ true = true) ∧ rowW c (List.length c + 64) = rowW c (List.length c + 64) ∧ True) ∧ True)) (by kernel_rfl) ⟨⟨⟨⟨⟨⟨⟨⟨⟨⟨⟨⟨⟨⟨⟨⟨⟨⟨⟨⟨⟨trivial, ⟨trivial, ⟨rfl, ⟨⟨rfl, rfl⟩, trivial⟩⟩⟩⟩, gd h0 rfl⟩, gd h0 rfl⟩, ⟨trivial, ⟨rfl, ⟨⟨rfl, rfl⟩, trivial⟩⟩⟩⟩, h0⟩, h1⟩, ⟨trivial, ⟨rfl, ⟨⟨rfl, rfl⟩, trivial⟩⟩⟩⟩, ⟨trivial, ⟨rfl, ⟨⟨rfl, rfl⟩, trivial⟩⟩⟩⟩, ⟨trivial, ⟨rfl, ⟨⟨rfl, h2⟩, ⟨⟨rfl, h3⟩, trivial⟩⟩⟩⟩⟩, ⟨trivial, ⟨rfl, ⟨⟨rfl, h3⟩, ⟨⟨rfl, h2⟩, trivial⟩⟩⟩⟩⟩, ⟨trivial, ⟨rfl, ⟨⟨rfl, rfl⟩, ⟨⟨rfl, rfl⟩, trivial⟩⟩⟩⟩⟩, gd h4 rfl⟩, gd h4 rfl⟩, gd h4 rfl⟩, h4⟩, h5⟩, ⟨trivial, ⟨rfl, ⟨⟨rfl, h2⟩, ⟨⟨rfl, rfl⟩, trivial⟩⟩⟩⟩⟩, ⟨⟨rfl, ⟨rfl, rfl⟩⟩, ⟨rfl, trivial⟩⟩⟩, ⟨trivial, ⟨rfl, ⟨⟨rfl, h3⟩, ⟨⟨rfl, rfl⟩, trivial⟩⟩⟩⟩⟩, ⟨⟨rfl, ⟨rfl, rfl⟩⟩, ⟨rfl, trivial⟩⟩⟩, h6⟩
theorem outW_ge : ∀ (l : List Nd) (N : Nat), outW N l < 16777216 → ∀ nd ∈ l, N + nd.w0 + (nd.es.map fun a => a.2.1.size + a.2.2.size).sum < 16777216
  | [], N, _, nd, h => by cases h
  | a :: r, N, h, nd, hm => by
    have hle : ∀ (l : List Nd) (N : Nat), N ≤ outW N l := by
      intro l
      induction l with
      | nil => intro N; exact Nat.le_refl _
      | cons b s ih =>
        intro N
        unfold outW
        split
        · have h1 : ∀ (es : List Ent) (N : Nat), N ≤ inW N es := by
            intro es
            induction es with
            | nil => intro N; exact Nat.le_refl _
            | cons e es ih =>
              intro N
              unfold inW
              split
              · have := ih (N + e.2.1.size + e.2.2.size); omega
              · exact Nat.le_refl _
          have h2 := ih (inW (N + b.w0) b.es)
          have h3 := h1 b.es (N + b.w0)
          omega
        · exact Nat.le_refl _
    unfold outW at h
    split at h
    · have h1 := hle r (inW (N + a.w0) a.es)
      have h2 := inW_all a.es (N + a.w0) (by omega)
      rcases List.mem_cons.1 hm with rfl | hm
      · omega
      · have := outW_ge r _ h nd hm
        omega
    · omega
theorem aB_len (es : List Ent) : (aB es).length = 9 * es.length + (es.map fun a => a.2.1.size + a.2.2.size).sum := by
  induction es with
  | nil => rfl
  | cons a r ih =>
    rw [aB, List.flatMap_cons, List.length_append, entB_len, ← aB, ih]
    simp
    omega
structure Nd.rng (nd : Nd) : Prop where
  p : ∀ a ∈ nd.es, -128 ≤ a.1 ∧ a.1 ≤ 127
  x : XOk nd.x
theorem ok_of {l : List Nd} (hw : wideB l = false) (hr : ∀ nd ∈ l, nd.rng) : ∀ nd ∈ l, nd.ok := by
  intro nd hm
  have h : outW l.length l < 16777216 := by
    have := of_decide_eq_false hw
    omega
  have h1 := outW_ge l _ h nd hm
  have h2 := aB_len nd.es
  unfold Nd.w0 at h1
  exact ⟨by omega, by omega, (hr nd hm).p, (hr nd hm).x⟩
theorem small_of {l : List Nd} (hok : ∀ nd ∈ l, nd.ok) : ∀ nd ∈ l, nd.small := fun nd hm => ⟨by have := (hok nd hm).b; omega, by have := (hok nd hm).m; omega⟩
def sumV64 (l : List Nd) : Int := (l.map Nd.val).sum
theorem subF_mod : ∀ (l : List Nd) (d : Int), 0 ≤ d → d < 18446744073709551616 → subF d l = (d - sumV64 l) % 18446744073709551616
  | [], d, h0, h1 => by simp only [subF, List.foldl_nil, sumV64, List.map_nil, List.sum_nil]; omega
  | a :: r, d, h0, h1 => by
    have := subF_mod r (IntKind.wrap .u64 (d - a.val)) (by rw [u64_wrap]; omega) (by rw [u64_wrap]; omega)
    rw [show subF d (a :: r) = subF (IntKind.wrap .u64 (d - a.val)) r from rfl, this, u64_wrap]
    simp only [sumV64, List.map_cons, List.sum_cons]
    omega
theorem addF_mod : ∀ (l : List Nd) (d : Int), 0 ≤ d → d < 18446744073709551616 → addF d l = (d + sumV64 l) % 18446744073709551616
  | [], d, h0, h1 => by simp only [addF, List.foldl_nil, sumV64, List.map_nil, List.sum_nil]; omega
  | a :: r, d, h0, h1 => by
    have := addF_mod r (IntKind.wrap .u64 (d + a.val)) (by rw [u64_wrap]; omega) (by rw [u64_wrap]; omega)
    rw [show addF d (a :: r) = addF (IntKind.wrap .u64 (d + a.val)) r from rfl, this, u64_wrap]
    simp only [sumV64, List.map_cons, List.sum_cons]
    omega
theorem subF_in {l : List Nd} {x : Int} (h : 0 ≤ x) (h' : x < 18446744073709551616) : 0 ≤ subF x l ∧ subF x l < 18446744073709551616 := by rw [subF_mod l x h h']; omega
theorem addF_in {l : List Nd} {x : Int} (h : 0 ≤ x) (h' : x < 18446744073709551616) : 0 ≤ addF x l ∧ addF x l < 18446744073709551616 := by rw [addF_mod l x h h']; omega
theorem law1 {d : Int} (h0 : 0 ≤ d) (h1 : d < 18446744073709551616) (g c : List Nd) : addF (subF d g) c = subF (addF d c) g := by
  have a1 := subF_in (l := g) h0 h1
  have a2 := addF_in (l := c) h0 h1
  have e1 := addF_mod c _ a1.1 a1.2
  have e2 := subF_mod g _ a2.1 a2.2
  have e3 := subF_mod g d h0 h1
  have e4 := addF_mod c d h0 h1
  omega
theorem law2 {d : Int} (h0 : 0 ≤ d) (h1 : d < 18446744073709551616) (g c : List Nd) : addF (subF (addF (subF d g) c) c) g = d := by
  have a1 := subF_in (l := g) h0 h1
  have a2 := addF_in (l := c) a1.1 a1.2
  have a3 := subF_in (l := c) a2.1 a2.2
  have e1 := addF_mod g _ a3.1 a3.2
  have e2 := subF_mod c _ a2.1 a2.2
  have e3 := addF_mod c _ a1.1 a1.2
  have e4 := subF_mod g d h0 h1
  omega
theorem wide_ok {pr : Prot} {w0 : World} (hG : TabZ pr w0) {g c : List Nd} (hg : g.length ≤ 1125899906842624) (hc : c.length ≤ 1125899906842624) (hgb : ∀ nd ∈ g, nd.big) (hcb : ∀ nd ∈ c, nd.big) : SumOk Tryz.prog pr w0 0 4 (pureS (fnP (wideG g c))) := by
  refine fnP_ok tabz_stands hG fun args μ X k p h hp => ?_
  unfold wideG at h
  split at h
  · rename_i n
    cases hb : Nat.beq n 1 with
    | true => rw [hb, cond_true] at h; cases h; exact ⟨(con4 hg hgb).toZ, fun _ => rfl, fun _ => rfl, pure_bool _⟩
    | false => rw [hb, cond_false] at h; cases h; exact ⟨(con4 hc hcb).toZ, fun _ => rfl, fun _ => rfl, pure_bool _⟩
  · cases h
theorem nodes_ok {pr : Prot} {w0 : World} (hG : TabZ pr w0) {g c : List Nd} (hg : g.length < 1099511627776) (hc : c.length < 1099511627776) (hgb : ∀ nd ∈ g, nd.small) (hcb : ∀ nd ∈ c, nd.small) : SumOk Tryz.prog pr w0 0 5 (fnW (nodesG g c)) := by
  refine fnW_ok tabz_stands hG fun args μ X k p h hp => ?_
  unfold nodesG at h
  split at h
  · rename_i n
    cases hb : Nat.beq n 1 with
    | true => rw [hb, cond_true] at h; cases h; exact (con5 hg hgb).toZ
    | false => rw [hb, cond_false] at h; cases h; exact (con5 hc hcb).toZ
  · cases h
theorem turn_ok {pr : Prot} {w0 : World} (hG : TabZ pr w0) {g c : List Nd} (hg : g.length < 1099511627776) (hc : c.length < 1099511627776) (hgb : ∀ nd ∈ g, nd.ok) (hcb : ∀ nd ∈ c, nd.ok) : SumOk Tryz.prog pr w0 0 6 (pureS (fnP (turnG g c))) := by
  refine fnP_ok tabz_stands hG fun args μ X k p h hp => ?_
  unfold turnG at h
  split at h
  · rename_i d a n m y
    cases hb : Nat.beq a.block 6 with
    | true => rw [hb, cond_true] at h; cases h; exact ⟨(con6 d hg hc hgb hcb).toZ, fun _ => rfl, fun _ => rfl, pure_int _ _⟩
    | false => rw [hb, cond_false] at h; cases h; exact ⟨(con6 d hc hg hcb hgb).toZ, fun _ => rfl, fun _ => rfl, pure_int _ _⟩
  · cases h
theorem ref_ok {pr : Prot} {w0 : World} (hG : TabZ pr w0) {g c : List Nd} (hg : g.length < 1099511627776) (hc : c.length < 1099511627776) (hgb : ∀ nd ∈ g, nd.ok) (hcb : ∀ nd ∈ c, nd.ok) : SumOk Tryz.prog pr w0 0 7 (pureS (fnP (refG g c))) := by
  refine fnP_ok tabz_stands hG fun args μ X k p h hp => ?_
  unfold refG at h
  split at h
  · rename_i d x y
    cases h; exact ⟨(con7 d hg hc hgb hcb).toZ, fun _ => rfl, fun _ => rfl, pure_int _ _⟩
  · cases h
theorem eq_ok {pr : Prot} {w0 : World} (hG : TabZ pr w0) {g c : List Nd} (hg : g.length < 1099511627776) (hc : c.length < 1099511627776) (hgb : ∀ nd ∈ g, nd.small) (hcb : ∀ nd ∈ c, nd.small) : SumOk Tryz.prog pr w0 0 8 (pureS (fnP (eqG g c))) := by
  refine fnP_ok tabz_stands hG fun args μ X k p h hp => ?_
  unfold eqG at h
  split at h
  · rename_i a n m y
    cases hb : Nat.beq a.block 6 with
    | true => rw [hb, cond_true] at h; cases h; exact ⟨(con8 hg hgb).toZ, fun _ => rfl, fun _ => rfl, pure_bool _⟩
    | false => rw [hb, cond_false] at h; cases h; exact ⟨(con8 hc hcb).toZ, fun _ => rfl, fun _ => rfl, pure_bool _⟩
  · cases h
theorem spare_ok {pr : Prot} {w0 : World} (hG : TabZ pr w0) {g c : List Nd} (hg : g.length < 1099511627776) (hc : c.length < 1099511627776) (hgb : ∀ nd ∈ g, nd.small) (hcb : ∀ nd ∈ c, nd.small) : SumOk Tryz.prog pr w0 0 9 (spareS g c) := by
  intro args μ e μ' p h
  unfold spareS at h
  split at h
  · rename_i a n m
    cases hb : Nat.beq a.block 6 with
    | true => rw [hb, cond_true] at h; exact pv_ok hG.1 (con9 hg hgb) _ μ e μ' p h
    | false => rw [hb, cond_false] at h; exact pv_ok hG.1 (con9 hc hcb) _ μ e μ' p h
  · cases h
def kn3 (d : Int) (g c : List Nd) : ConW := ⟨fun X => [.int .u64 d, X 0, X 1], [.d (nodesD g) g.length, .d (nodesD c) c.length], fun _ => .bool true, fun _ => []⟩
theorem con3 {d : Int} (h0 : 0 ≤ d) (h1 : d < 18446744073709551616) {g c : List Nd} (hg : g.length ≤ 1125899906842624) (hc : c.length ≤ 1125899906842624) (hgb : ∀ nd ∈ g, nd.big) (hcb : ∀ nd ∈ c, nd.big) (hgr : ∀ nd ∈ g, nd.rng) (hcr : ∀ nd ∈ c, nd.rng) : ConWG TabZ Tryz.prog 3 (kn3 d g c) := by
  have hF : ∀ os, (∀ p ∈ os, p.1 < 4 ∧ BdO 4 p.2) → smallN os = true → Fits 4 [] os 4 := fun os h1 h2 => ⟨rfl, h2, by simp, h1, by decide, by decide⟩
  have hA : ∀ (x : Value), x ∈ [Value.int IntKind.u64 d, Value.chan (some 1), Value.chan (some 3)] → Bd 4 x := by simp
  have ap : ∀ (ι ι' : Ren) (f g : Nat → Value), (∀ i, i < 2 → conc ι (f i) = conc ι' (g i)) → ([Value.int .u64 d, f 0, f 1]).map (conc ι) = ([Value.int .u64 d, g 0, g 1]).map (conc ι') := by
    intro ι ι' f g h
    simp [h 0 (by decide), h 1 (by decide)]
  have hb4 : ∀ p ∈ ([(0, AObj.ro (nodesD g)), (1, .word g.length 0), (2, .ro (nodesD c)), (3, .word c.length 2)] : List (Nat × AObj)), p.1 < 4 ∧ BdO 4 p.2 := by simp [BdO]
  cases hw : wideB g with
  | true =>
    exact conW_read (args := fun X => [.int .u64 d, X 0, X 1]) (ws := [.d (nodesD g) g.length, .d (nodesD c) c.length]) hP1 (fun pr w0 hG => withQ_ok (sm0_ok pr w0) (wide_ok hG hg hc hgb hcb)) (c3a_came d g c hw) (by simp [limit]) (hF _ hb4 rfl) hA (pure_bool _) ap (fun _ => by simp [upV])
  | false =>
    cases hw' : wideB c with
    | true =>
      exact conW_read (args := fun X => [.int .u64 d, X 0, X 1]) (ws := [.d (nodesD g) g.length, .d (nodesD c) c.length]) hP1 (fun pr w0 hG => withQ_ok (sm0_ok pr w0) (wide_ok hG hg hc hgb hcb)) (c3b_came d g c hw hw') (by simp [limit]) (hF _ hb4 rfl) hA (pure_bool _) ap (fun _ => by simp [upV])
    | false =>
      have kg := ok_of hw hgr
      have kc := ok_of hw' hcr
      have hlen : ∀ {l : List Nd}, wideB l = false → l.length < 1099511627776 := by
        intro l h
        have h1 := of_decide_eq_false h
        cases l with
        | nil => simp
        | cons a r =>
          have := outW_ge (a :: r) (a :: r).length (by omega) a (List.mem_cons_self ..)
          omega
      have g1 := hlen hw
      have c1 := hlen hw'
      have gs := small_of kg
      have cs := small_of kc
      exact conW_read (args := fun X => [.int .u64 d, X 0, X 1]) (ws := [.d (nodesD g) g.length, .d (nodesD c) c.length]) hP1
        (fun pr w0 hG => withQ_ok (withQ_ok (withS_ok (withQ_ok (withQ_ok (withQ_ok (withS_ok (sm0_ok pr w0) (nodes_ok hG g1 c1 gs cs)) (wide_ok hG hg hc hgb hcb)) (turn_ok hG g1 c1 kg kc)) (ref_ok hG g1 c1 kg kc)) (spare_ok hG g1 c1 gs cs)) (eq_ok hG g1 c1 gs cs)) (lives_ok hG))
        (c3c_came d g c hw hw' (rowW_take (by omega)) (rowW_take (by omega)) (by rw [law1 h0 h1]; simp) (by rw [law2 h0 h1]; simp) trivial) (by simp [limit]) ⟨rfl, rfl, by simp, by simp [BdO], by decide, by simp⟩ hA (pure_bool _) ap (fun _ => by simp [upV])
end Go.Abs
end
section
namespace Go.Abs
open Go.Proofs Go.ChangeShapes Go.WideShapes Go.ChangeAt Go.RowKit
set_option maxRecDepth 100000
def Ref (d d' : Deep) : Prop := ∀ (w : World) (v : Value), DeepOk (fun _ => True) w d v → DeepOk (fun _ => True) w d' v
def RefL (ds ds' : List Deep) : Prop := ds.length = ds'.length ∧ ∀ (i : Nat) (d d' : Deep), ds[i]? = some d → ds'[i]? = some d' → Ref d d'
theorem Ref.refl (d : Deep) : Ref d d := fun _ _ h => h
section
variable {P : Program} {R : Nat} {n : Nat} {t : TypeId}
theorem fitInt {k : IntKind} {ds : List Deep} (ht : P.underlying t = some (.int k)) (hf : FitD P R n t ds) : ∃ i, ds = [.val (.int k i)] ∧ (Lit.int k i).wf = true := by
  cases n with
  | zero => exact hf.elim
  | succ n => unfold FitD at hf; rw [ht] at hf; exact hf
theorem fitStr {ds : List Deep} (ht : P.underlying t = some .string) (hf : FitD P R n t ds) : ∃ s : ByteArray, ds = [.val (.string s)] ∧ s.size ≤ R := by
  cases n with
  | zero => exact hf.elim
  | succ n =>
    unfold FitD at hf; rw [ht] at hf
    obtain ⟨s, h1, _, h2⟩ := hf
    exact ⟨s, h1, h2⟩
theorem fitSlice {e : TypeId} {ds : List Deep} (ht : P.underlying t = some (.slice e)) (hb : 1 ≤ P.bytesOf e) (hf : FitD P R n t ds) :
    ∃ d m es len, ds = [d] ∧ Ref d (.sl es len) ∧ es.length = len * P.cellsOf e ∧ len ≤ R ∧ ∀ i, i < len → FitD P R m e ((es.drop (i * P.cellsOf e)).take (P.cellsOf e)) := by
  cases n with
  | zero => exact hf.elim
  | succ n =>
    unfold FitD at hf; rw [ht] at hf
    rcases hf with rfl | ⟨sp, rfl⟩ | ⟨es, len, cap, rfl, h1, h2, h3, h4, h5, h6⟩
    · refine ⟨_, 0, [], 0, rfl, fun w v h => ?_, by simp, Nat.zero_le _, fun i hi => absurd hi (by omega)⟩
      rw [deepOk_val] at h
      rw [deepOk_sl]
      exact .inl ⟨rfl, rfl, none, 0, h.1⟩
    · refine ⟨_, 0, [], 0, rfl, fun w v h => ?_, by simp, Nat.zero_le _, fun i hi => absurd hi (by omega)⟩
      rw [deepOk_void] at h
      obtain ⟨b, o, rfl⟩ := h
      rw [deepOk_sl]
      exact .inl ⟨rfl, rfl, _, _, rfl⟩
    · refine ⟨_, n, es.take (len * P.cellsOf e), len, rfl, fun w v h => ?_, ?_, ?_, fun i hi => ?_⟩
      · rw [deepOk_row] at h
        obtain ⟨b, o, rfl, hc⟩ := h
        rw [deepOk_sl]
        refine .inr ⟨b, o, cap, rfl, fun i hi => ?_⟩
        rw [List.length_take] at hi
        rw [List.getElem_take]
        exact hc i (by omega)
      · rw [List.length_take, h5, Nat.min_eq_left (Nat.mul_le_mul_right _ h1)]
      · have : cap * 1 ≤ cap * P.bytesOf e := Nat.mul_le_mul_left _ hb
        omega
      · have hle : i * P.cellsOf e + P.cellsOf e ≤ len * P.cellsOf e := by rw [← Nat.succ_mul]; exact Nat.mul_le_mul_right _ hi
        rw [List.drop_take, List.take_take, Nat.min_eq_left (by omega)]
        exact h6 i (by omega)
end
theorem choose_list {α : Type} (x0 : α) {Q : Nat → α → Prop} : ∀ (n : Nat), (∀ j, j < n → ∃ x, Q j x) → ∃ l : List α, l.length = n ∧ ∀ j, j < n → Q j (l.getD j x0)
  | 0, _ => ⟨[], rfl, fun j hj => absurd hj (by omega)⟩
  | n + 1, h => by
    obtain ⟨l, hl, hq⟩ := choose_list x0 n fun j hj => h j (by omega)
    obtain ⟨x, hx⟩ := h n (by omega)
    refine ⟨l ++ [x], by simp [hl], fun j hj => ?_⟩
    by_cases hjn : j < n
    · rw [List.getD_eq_getElem?_getD, List.getElem?_append_left (by omega), ← List.getD_eq_getElem?_getD]; exact hq j hjn
    · have : j = n := by omega
      subst this
      rw [List.getD_eq_getElem?_getD, List.getElem?_append_right (by omega), hl, Nat.sub_self]
      exact hx
theorem rows_split {α : Type} {es : List α} {s : Nat} : ∀ {n : Nat}, es.length = n * s → es = rows (fun j => (es.drop (j * s)).take s) n := by
  intro n h
  have key : ∀ k, k ≤ n → rows (fun j => (es.drop (j * s)).take s) k = es.take (k * s) := by
    intro k
    induction k with
    | zero => intro _; simp [rows]
    | succ k ih =>
      intro hk
      rw [rows_succ, ih (by omega), Nat.succ_mul, List.take_add]
  rw [key n (Nat.le_refl _), List.take_of_length_le (by omega)]
theorem ref_vals {vs : List Value} {len : Nat} (h : ∀ v ∈ vs, Pure v) : Ref (.sl (vs.map .val) len) (.slv vs len) := by
  intro w v hd
  rw [deepOk_sl] at hd
  rw [deepOk_slv]
  rcases hd with ⟨h1, h2, h3⟩ | ⟨b, o, c, rfl, hc⟩
  · exact .inl ⟨h1, by simpa using h2, h3⟩
  · refine .inr ⟨b, o, c, rfl, fun i u hu => ?_⟩
    have hi : i < vs.length := (List.getElem?_eq_some_iff.1 hu).1
    obtain ⟨g1, g2, u', g3, g4⟩ := hc i (by simpa using hi)
    rw [List.getElem_map, deepOk_val] at g4
    have e : vs[i] = u := by rw [List.getElem?_eq_getElem hi] at hu; exact Option.some.inj hu
    rw [e] at g4
    obtain ⟨rfl, hp⟩ := g4
    exact ⟨g1, g2, g3, hp⟩
theorem Ref.trans {a b c : Deep} (h : Ref a b) (h' : Ref b c) : Ref a c := fun w v hv => h' w v (h w v hv)
theorem wf_rng {k : IntKind} {i : Int} (h : (Lit.int k i).wf = true) : k.min ≤ i ∧ i ≤ k.max := by
  simpa [Lit.wf] using h
theorem c5' : Tryz.prog.cellsOf 5 = 1 := by kernel_rfl
theorem c9' : Tryz.prog.cellsOf 9 = 1 := by kernel_rfl
theorem c21' : Tryz.prog.cellsOf 21 = 1 := by kernel_rfl
theorem c30' : Tryz.prog.cellsOf 30 = 1 := by kernel_rfl
theorem c31' : Tryz.prog.cellsOf 31 = 1 := by kernel_rfl
theorem c34' : Tryz.prog.cellsOf 34 = 2 := by kernel_rfl
theorem c36' : Tryz.prog.cellsOf 36 = 12 := by kernel_rfl
theorem c38' : Tryz.prog.cellsOf 38 = 16 := by kernel_rfl
theorem c40' : Tryz.prog.cellsOf 40 = 2 := by kernel_rfl
theorem c41' : Tryz.prog.cellsOf 41 = 1 := by kernel_rfl
theorem c43' : Tryz.prog.cellsOf 43 = 3 := by kernel_rfl
theorem c32' : Tryz.prog.cellsOf 32 = 1 := by kernel_rfl
theorem c2' : Tryz.prog.cellsOf 2 = 1 := by kernel_rfl
theorem c3' : Tryz.prog.cellsOf 3 = 1 := by kernel_rfl
theorem b5' : 1 ≤ Tryz.prog.bytesOf 5 := of_decide_eq_true (by kernel_rfl)
theorem b43' : 1 ≤ Tryz.prog.bytesOf 43 := of_decide_eq_true (by kernel_rfl)
theorem b38' : 1 ≤ Tryz.prog.bytesOf 38 := of_decide_eq_true (by kernel_rfl)
theorem len3 {α : Type} : ∀ {l : List α}, l.length = 3 → ∃ a b c, l = [a, b, c]
  | [a, b, c], _ => ⟨a, b, c, rfl⟩
theorem len16 {α : Type} : ∀ {l : List α}, l.length = 16 → ∃ a0 a1 a2 a3 a4 a5 a6 a7 a8 a9 a10 a11 a12 a13 a14 a15, l = [a0, a1, a2, a3, a4, a5, a6, a7, a8, a9, a10, a11, a12, a13, a14, a15]
  | [a0, a1, a2, a3, a4, a5, a6, a7, a8, a9, a10, a11, a12, a13, a14, a15], _ => ⟨a0, a1, a2, a3, a4, a5, a6, a7, a8, a9, a10, a11, a12, a13, a14, a15, rfl⟩
section
variable {R n : Nat}
theorem fit30 {ds : List Deep} (hf : FitD Tryz.prog R n 30 ds) : ∃ d bs, ds = [d] ∧ Ref d (.slv (bv bs) bs.length) ∧ bs.length ≤ R := by
  obtain ⟨d, m, es, len, rfl, hr, hl, hR, he⟩ := fitSlice Tryz.underlying30 b5' hf
  rw [c5'] at hl he
  obtain ⟨bs, hbl, hb⟩ := choose_list (0 : Int) len (Q := fun j x => (es.drop (j * 1)).take 1 = [.val (.int .u8 x)]) fun j hj => by
    obtain ⟨i, hi, _⟩ := fitInt Tryz.underlying5 (he j hj)
    exact ⟨i, hi⟩
  have e : es = (bv bs).map .val := by
    rw [rows_split hl, bv_rows, hbl, rows_map]
    exact rows_ext fun j hj => hb j hj
  refine ⟨d, bs, rfl, ?_, by omega⟩
  rw [e] at hr
  rw [hbl]
  exact hr.trans (ref_vals fun v hv => by
    obtain ⟨b, _, rfl⟩ := List.mem_map.1 hv
    exact pure_int _ _)
theorem fit43 {ds : List Deep} (hf : FitD Tryz.prog R n 43 ds) : ∃ e : Ent, ds = (cellA e).map .val ∧ e.2.1.size ≤ R ∧ e.2.2.size ≤ R ∧ -128 ≤ e.1 ∧ e.1 ≤ 127 := by
  obtain ⟨m, rfl, hl, hfs⟩ := fit_field Tryz.underlying43 hf
  rw [c43'] at hl
  obtain ⟨a, b, c, rfl⟩ := len3 hl
  have h0 := fit_part hfs (i := 0) rfl (u := 41) rfl c41'
  have h1 := fit_part hfs (i := 1) rfl (u := 40) rfl c40'
  obtain ⟨p, hp, hw⟩ := fitInt Tryz.underlying41 h0
  obtain ⟨k, rfl, _, gfs⟩ := fit_field Tryz.underlying40 h1
  have g0 := fit_part gfs (i := 0) rfl (u := 9) rfl c9'
  have g1 := fit_part gfs (i := 1) rfl (u := 9) rfl c9'
  obtain ⟨s, hs, hsR⟩ := fitStr Tryz.underlying9 g0
  obtain ⟨d, hd, hdR⟩ := fitStr Tryz.underlying9 g1
  have hw := wf_rng hw
  simp at hp hs hd
  subst hp; subst hs; subst hd
  exact ⟨(p, s, d), rfl, hsR, hdR, hw.1, hw.2⟩
theorem fit31 {ds : List Deep} (hf : FitD Tryz.prog R n 31 ds) : ∃ d es, ds = [d] ∧ Ref d (.slv (av es) es.length) ∧ es.length ≤ R ∧ ∀ a ∈ es, a.2.1.size ≤ R ∧ a.2.2.size ≤ R ∧ -128 ≤ a.1 ∧ a.1 ≤ 127 := by
  obtain ⟨d, m, es, len, rfl, hr, hl, hR, he⟩ := fitSlice Tryz.underlying31 b43' hf
  rw [c43'] at hl he
  obtain ⟨al, hal, ha⟩ := choose_list ((0, ⟨#[]⟩, ⟨#[]⟩) : Ent) len (Q := fun j e => (es.drop (j * 3)).take 3 = (cellA e).map .val ∧ e.2.1.size ≤ R ∧ e.2.2.size ≤ R ∧ -128 ≤ e.1 ∧ e.1 ≤ 127) fun j hj => fit43 (he j hj)
  have e : es = (av al).map .val := by
    rw [rows_split hl, av, hal, rows_map]
    exact rows_ext fun j hj => (ha j hj).1
  refine ⟨d, al, rfl, ?_, by omega, fun a hm => ?_⟩
  · rw [e] at hr
    rw [hal]
    refine hr.trans (ref_vals fun v hv => ?_)
    obtain ⟨j, _, hj⟩ := rows_mem hv
    simp [cellA] at hj
    rcases hj with rfl | rfl | rfl
    · exact pure_int _ _
    · exact fun ι => by simp
    · exact fun ι => by simp
  · obtain ⟨j, hj, rfl⟩ := List.getElem_of_mem hm
    have := (ha j (by omega)).2
    rwa [List.getD_eq_getElem?_getD, List.getElem?_eq_getElem hj] at this
theorem fit34 {ds : List Deep} (hf : FitD Tryz.prog R n 34 ds) : ∃ a b, ds = [.val (.int .u32 a), .val (.int .u32 b)] := by
  obtain ⟨m, rfl, hl, hfs⟩ := fit_field Tryz.underlying34 hf
  rw [c34'] at hl
  match ds, hl with
  | [x, y], _ =>
    obtain ⟨a, ha, _⟩ := fitInt Tryz.underlying32 (fit_part hfs (i := 0) rfl (u := 32) rfl c32')
    obtain ⟨b, hb, _⟩ := fitInt Tryz.underlying32 (fit_part hfs (i := 1) rfl (u := 32) rfl c32')
    simp at ha hb
    subst ha; subst hb
    exact ⟨a, b, rfl⟩
theorem len12 {α : Type} : ∀ {l : List α}, l.length = 12 → ∃ a0 a1 a2 a3 a4 a5 a6 a7 a8 a9 a10 a11, l = [a0, a1, a2, a3, a4, a5, a6, a7, a8, a9, a10, a11]
  | [a0, a1, a2, a3, a4, a5, a6, a7, a8, a9, a10, a11], _ => ⟨a0, a1, a2, a3, a4, a5, a6, a7, a8, a9, a10, a11, rfl⟩
theorem fit36 {ds : List Deep} (hf : FitD Tryz.prog R n 36 ds) : ∃ x0 x1 x2 x3 x4 x5 x6 x7 x8 x9 x10 x11, ds = [.val (.int .u32 x0), .val (.int .u32 x1), .val (.int .u32 x2), .val (.int .u32 x3), .val (.int .u32 x4), .val (.int .u32 x5), .val (.int .i32 x6), .val (.int .i32 x7), .val (.int .i32 x8), .val (.int .i64 x9), .val (.int .i64 x10), .val (.int .i64 x11)] ∧
    (IntKind.i32.min ≤ x6 ∧ x6 ≤ IntKind.i32.max) ∧ (IntKind.i32.min ≤ x7 ∧ x7 ≤ IntKind.i32.max) ∧ (IntKind.i32.min ≤ x8 ∧ x8 ≤ IntKind.i32.max) ∧ (IntKind.i64.min ≤ x9 ∧ x9 ≤ IntKind.i64.max) := by
  obtain ⟨m, rfl, hl, hfs⟩ := fit_field Tryz.underlying36 hf
  rw [c36'] at hl
  obtain ⟨a0, a1, a2, a3, a4, a5, a6, a7, a8, a9, a10, a11, rfl⟩ := len12 hl
  obtain ⟨x0, x1, e0⟩ := fit34 (fit_part hfs (i := 0) rfl (u := 34) rfl c34')
  obtain ⟨x2, x3, e1⟩ := fit34 (fit_part hfs (i := 1) rfl (u := 34) rfl c34')
  obtain ⟨x4, x5, e2⟩ := fit34 (fit_part hfs (i := 2) rfl (u := 34) rfl c34')
  obtain ⟨x6, e6, w6⟩ := fitInt Tryz.underlying21 (fit_part hfs (i := 3) rfl (u := 21) rfl c21')
  obtain ⟨x7, e7, w7⟩ := fitInt Tryz.underlying21 (fit_part hfs (i := 4) rfl (u := 21) rfl c21')
  obtain ⟨x8, e8, w8⟩ := fitInt Tryz.underlying21 (fit_part hfs (i := 5) rfl (u := 21) rfl c21')
  obtain ⟨x9, e9, w9⟩ := fitInt Tryz.underlying2 (fit_part hfs (i := 6) rfl (u := 2) rfl c2')
  obtain ⟨x10, e10, _⟩ := fitInt Tryz.underlying3 (fit_part hfs (i := 7) rfl (u := 3) rfl c3')
  obtain ⟨x11, e11, _⟩ := fitInt Tryz.underlying3 (fit_part hfs (i := 8) rfl (u := 3) rfl c3')
  simp at e0 e1 e2 e6 e7 e8 e9 e10 e11
  obtain ⟨rfl, rfl⟩ := e0
  obtain ⟨rfl, rfl⟩ := e1
  obtain ⟨rfl, rfl⟩ := e2
  subst e6; subst e7; subst e8; subst e9; subst e10; subst e11
  exact ⟨x0, x1, x2, x3, x4, x5, x6, x7, x8, x9, x10, x11, rfl, wf_rng w6, wf_rng w7, wf_rng w8, wf_rng w9⟩
def xsI (l : List Int) : Nat → Int := fun i => l.getD i 0
theorem refL_cons {a b : Deep} {ds es : List Deep} (h : Ref a b) (h' : RefL ds es) : RefL (a :: ds) (b :: es) := by
  refine ⟨by simp [h'.1], fun i d d' hd hd' => ?_⟩
  cases i with
  | zero => simp at hd hd'; subst hd; subst hd'; exact h
  | succ i => exact h'.2 i d d' (by simpa using hd) (by simpa using hd')
theorem refL_refl (ds : List Deep) : RefL ds ds := ⟨rfl, fun i d d' h h' => by rw [h] at h'; cases h'; exact Ref.refl _⟩
theorem fit38 (hRR : R ≤ 1125899906842624) {ds : List Deep} (hf : FitD Tryz.prog R n 38 ds) : ∃ nd : Nd, RefL ds nd.d ∧ nd.big ∧ nd.rng := by
  obtain ⟨m, rfl, hl, hfs⟩ := fit_field Tryz.underlying38 hf
  rw [c38'] at hl
  obtain ⟨a0, a1, a2, a3, a4, a5, a6, a7, a8, a9, a10, a11, a12, a13, a14, a15, rfl⟩ := len16 hl
  obtain ⟨nm, e0, hnm⟩ := fitStr Tryz.underlying9 (fit_part hfs (i := 0) rfl (u := 9) rfl c9')
  obtain ⟨d, bs, e1, r1, hbs⟩ := fit30 (fit_part hfs (i := 1) rfl (u := 30) rfl c30')
  obtain ⟨d', es, e2, r2, hes, hees⟩ := fit31 (fit_part hfs (i := 2) rfl (u := 31) rfl c31')
  obtain ⟨x0, x1, x2, x3, x4, x5, x6, x7, x8, x9, x10, x11, e3, w6, w7, w8, w9⟩ := fit36 (fit_part hfs (i := 3) rfl (u := 36) rfl c36')
  obtain ⟨x12, e12, w12⟩ := fitInt Tryz.underlying21 (fit_part hfs (i := 4) rfl (u := 21) rfl c21')
  have w12 := wf_rng w12
  simp at e0 e1 e2 e3 e12
  subst e0; subst e1; subst e2; subst e12
  obtain ⟨rfl, rfl, rfl, rfl, rfl, rfl, rfl, rfl, rfl, rfl, rfl, rfl⟩ := e3
  refine ⟨⟨nm, bs, es, xsI [x0, x1, x2, x3, x4, x5, x6, x7, x8, x9, x10, x11, x12]⟩, refL_cons (Ref.refl _) (refL_cons r1 (refL_cons r2 (refL_refl _))), ⟨?_, ?_, ?_, fun a ha => ?_⟩, fun a ha => ?_, ?_⟩
  · exact Nat.le_trans hnm hRR
  · exact Nat.le_trans hbs hRR
  · exact Nat.le_trans hes hRR
  · have := hees a ha; exact ⟨Nat.le_trans this.1 hRR, Nat.le_trans this.2.1 hRR⟩
  · have := hees a ha; exact this.2.2
  · exact ⟨w6, w7, w8, w9, w12⟩
theorem fit23 (hRR : R ≤ 1125899906842624) {ds : List Deep} (hf : FitD Tryz.prog R n 23 ds) : ∃ d es l, ds = [d] ∧ Ref d (.sl es l.length) ∧ RefL es (nodesD l) ∧ l.length ≤ R ∧ ∀ nd ∈ l, nd.big ∧ nd.rng := by
  obtain ⟨d, m, es, len, rfl, hr, hl, hR, he⟩ := fitSlice Tryz.underlying23 b38' hf
  rw [c38'] at hl he
  obtain ⟨al, hal, ha⟩ := choose_list nd0 len (Q := fun j (nd : Nd) => RefL ((es.drop (j * 16)).take 16) nd.d ∧ nd.big ∧ nd.rng) fun j hj => fit38 hRR (he j hj)
  refine ⟨d, es, al, rfl, by rw [hal]; exact hr, ⟨by rw [nodesD_len, hal, hl], fun i d d' hd hd' => ?_⟩, by omega, fun a hm => ?_⟩
  · have hi : i < es.length := (List.getElem?_eq_some_iff.1 hd).1
    have hq : i / 16 < len := by omega
    have hr16 : i % 16 < 16 := Nat.mod_lt _ (by decide)
    have hsum : i / 16 * 16 + i % 16 = i := by omega
    refine (ha (i / 16) hq).1.2 (i % 16) d d' ?_ ?_
    · rw [List.getElem?_take_of_lt hr16, List.getElem?_drop, hsum]; exact hd
    · have := rows_get (f := fun j => (al.getD j nd0).d) (s := 16) (m := len) (fun _ _ => rfl) hq hr16
      rw [hsum, ← hal] at this
      rw [← this]
      exact hd'
  · obtain ⟨j, hj, rfl⟩ := List.getElem_of_mem hm
    have := (ha j (by omega)).2
    rwa [List.getD_eq_getElem?_getD, List.getElem?_eq_getElem hj] at this
end
theorem word23 {w : World} {d : Deep} {v : Value} {es : List Deep} {l : List Nd} (hr : Ref d (.sl es l.length)) (hl : RefL es (nodesD l)) (h : DeepOk (fun _ => True) w d v) :
    wordF { loc := fun _ => (0, 0), ext := fun _ => 0, fz := fun b => b < w.heap.size, wb := w } v (Wd.d (nodesD l) l.length) := by
  have hm : ∀ (d : Deep) (v : Value), DeepOk (fun _ => True) w d v → DeepOk (fun b => b < w.heap.size) w d v := fun d v h => DeepOk.mono (fun b hb _ => ⟨hb, hb, rfl⟩) d v h
  have h1 := hr w v h
  rw [deepOk_sl] at h1
  rcases h1 with ⟨h1, h2, base, c, rfl⟩ | ⟨b, o, c, rfl, hc⟩
  · refine ⟨base, c, by simp [Wd.len, h1], (0, 0), .inl h1, fun i hi => ?_⟩
    rw [nodesD_len, h1] at hi
    exact absurd hi (by omega)
  · refine ⟨_, c, rfl, (b, o), .inr rfl, fun i hi => ?_⟩
    have hi' : i < es.length := by rw [hl.1]; exact hi
    obtain ⟨g1, _, u, g3, g4⟩ := hc i hi'
    exact ⟨g1, g1, u, g3, hm _ _ (hl.2 i es[i] (nodesD l)[i] (List.getElem?_eq_getElem hi') (List.getElem?_eq_getElem hi) w u g4)⟩
theorem walk {w : World} (hG : TabZ Prot.all w) {R n m : Nat} (hRR : R ≤ 1125899906842624) {d : Int} (h0 : 0 ≤ d) (h1 : d < 18446744073709551616) {v1 v2 : Value} {d1 d2 : List Deep} (f1 : FitD Tryz.prog R n 23 d1) (f2 : FitD Tryz.prog R m 23 d2) (k1 : Hold w d1 [v1]) (k2 : Hold w d2 [v2]) :
    Calls Tryz.prog 3 #[.int .u64 d, v1, v2] w fun e w' => e = .returned (.bool true) ∧ Below w.heap.size w w' := by
  obtain ⟨x1, es1, l1, rfl, r1, s1, n1, b1⟩ := fit23 hRR f1
  obtain ⟨x2, es2, l2, rfl, r2, s2, n2, b2⟩ := fit23 hRR f2
  have hc := con3 h0 h1 (g := l1) (c := l2) (Nat.le_trans n1 hRR) (Nat.le_trans n2 hRR) (fun nd h => (b1 nd h).1) (fun nd h => (b2 nd h).1) (fun nd h => (b1 nd h).2) (fun nd h => (b2 nd h).2)
  refine callsW (c := kn3 d l1 l2) hG hc (pure_bool _) (fun i => match i with
    | 0 => v1
    | _ => v2) ?_ ?_
  · intro i hi
    match i, hi with
    | 0, _ => exact word23 r1 s1 (hold_at k1 (i := 0) rfl rfl)
    | 1, _ => exact word23 r2 s2 (hold_at k2 (i := 0) rfl rfl)
    | i + 2, hi => exact absurd hi (by simp [kn3])
  · intro ι' hι
    have e0 := hι 0 (by simp [kn3])
    have e1 := hι 1 (by simp [kn3])
    simp only [Nat.mul_zero, Nat.zero_add, Nat.mul_one] at e0 e1
    simp [kn3, e0, e1]
end Go.Abs
end
