/-
  What the law's functions come to: part D.
-/
import Derived.Test.YtkbnjgbendfcaaaGreatCcB
import Derived.Test.YtkbnjgbendfcaaaGreatCcC
import Derived.Test.YtkbnjgbendfcaaaGreatBmC
section
set_option linter.unusedVariables false
set_option linter.unusedSimpArgs false
set_option linter.unusedSectionVars false
/-
  ClusterChecks: what the law's contracts are put together with.
-/
namespace Go.Abs
open Go.Proofs
set_option maxRecDepth 100000
set_option maxHeartbeats 4000000
set_option linter.unusedVariables false
theorem lx_came (a : Option Addr) (a' : Option Addr) (n : Nat) (c0 : Nat) (m : Nat) (c1 : Nat) (ca : Int) (fa : Nat) (ch : Int) (se : Int) (ro : Int) (le : Int) (lc : Int) (h0 : decide ((↑n : Int) > 1048576) = true) :
    RanC (runO Tryz.prog E1 (sm0) noRun 100 3 [Value.agg (Array.mk (cf (Value.slice a n c0) (Value.slice a' m c1) ca fa ch se ro le lc))] (mkHp 2 []) [.skip 7, .b false, .b false, .b false, .b false, .b true] True) (.returned (Value.bool true)) [(2, AObj.cells [Value.slice a n c0, Value.slice a' m c1, Value.int IntKind.i64 ca, Value.float FloatKind.f64 fa, Value.int IntKind.i64 ch, Value.int IntKind.i64 se, Value.int IntKind.i64 ro, Value.int IntKind.u32 le, Value.int IntKind.u32 lc] 0)] 3 :=
  cameCF_of (O := (((((True ∧ (decide ((↑n : Int) > 1048576) == false) = false) ∧ (decide ((↑n : Int) > 1048576) == false) = false) ∧ (decide ((↑n : Int) > 1048576) == false) = false) ∧ (decide ((↑n : Int) > 1048576) == false) = false) ∧ decide ((↑n : Int) > 1048576) = true)) (by kernel_rfl) ⟨⟨⟨⟨⟨trivial, gd h0 rfl⟩, gd h0 rfl⟩, gd h0 rfl⟩, gd h0 rfl⟩, h0⟩
theorem ly_came (a : Option Addr) (a' : Option Addr) (n : Nat) (c0 : Nat) (m : Nat) (c1 : Nat) (ca : Int) (fa : Nat) (ch : Int) (se : Int) (ro : Int) (le : Int) (lc : Int) (h0 : decide ((↑n : Int) > 1048576) = false) (h1 : decide ((↑m : Int) > 1048576) = true) :
    RanC (runO Tryz.prog E1 (sm0) noRun 100 3 [Value.agg (Array.mk (cf (Value.slice a n c0) (Value.slice a' m c1) ca fa ch se ro le lc))] (mkHp 2 []) [.skip 7, .b true, .skip 1, .b true, .skip 1, .b true, .skip 1, .b true, .skip 1, .b false, .b true] True) (.returned (Value.bool true)) [(2, AObj.cells [Value.slice a n c0, Value.slice a' m c1, Value.int IntKind.i64 ca, Value.float FloatKind.f64 fa, Value.int IntKind.i64 ch, Value.int IntKind.i64 se, Value.int IntKind.i64 ro, Value.int IntKind.u32 le, Value.int IntKind.u32 lc] 0)] 3 :=
  cameCF_of (O := ((((((True ∧ (decide ((↑n : Int) > 1048576) == false) = true) ∧ (decide ((↑n : Int) > 1048576) == false) = true) ∧ (decide ((↑n : Int) > 1048576) == false) = true) ∧ (decide ((↑n : Int) > 1048576) == false) = true) ∧ decide ((↑n : Int) > 1048576) = false) ∧ decide ((↑m : Int) > 1048576) = true)) (by kernel_rfl) ⟨⟨⟨⟨⟨⟨trivial, gd h0 rfl⟩, gd h0 rfl⟩, gd h0 rfl⟩, gd h0 rfl⟩, h0⟩, h1⟩
section
variable {P : Program} {E : Env} {pr : Prot} {w0 : World}
theorem cut_ranC {r : Option (Ending × Hp × List Ans × Prop)} {e : Ending} {os : List (Nat × AObj)} {next : Nat} (h : RanC r e os next) : RanC r e [] next := by
  obtain ⟨h⟩ := h
  refine ⟨?_⟩
  unfold CameC at h ⊢
  split at h
  · obtain ⟨h1, h2, h3, h4⟩ := h
    exact ⟨h1, h2, trivial, h4⟩
  · exact h.elim
theorem con_read0 (hP : Okk P E) {f : Nat} {args : (Nat → Nat) → List Value} {os : List (Nat × AObj)} {k : Nat} {v : Value} {s : Sm} (hs : ∀ pr w0, SmOk P E pr w0 s) {n : Nat} {orc : List Ans} {os1 : List (Nat × AObj)} {n1 : Nat}
    (h : RanC (runO P E s noRun n f (args fun n => n) (mkHp k os) orc True) (.returned v) os1 n1) (hF : Fits k [] os k) (h1 : k ≤ n1) (h2 : n1 ≤ limit) (ha : ∀ x ∈ (args fun n => n), Bd k x) (hv : Bd k v)
    (ua : ∀ σ, args σ = (args fun n => n).map (upV σ)) (uv : ∀ σ, v = upV σ v) : ConOk P f ⟨args, os, k, fun _ => v, fun _ => []⟩ :=
  con_read hP hs (cut_ranC h) hF ⟨rfl, rfl, by simp, by simp, h2, h1⟩ ha hv ua uv
theorem tab1_ok {ng f : Nat} {k : List Nat} {g : SumO} (h : SumOk P pr w0 ng f g) : SumOk P pr w0 ng f (tabS [(k, g)]) := tabS_ok (by intro p hp; simp at hp; subst hp; exact h)
theorem tab2_ok {ng f : Nat} {k l : List Nat} {g g' : SumO} (h : SumOk P pr w0 ng f g) (h' : SumOk P pr w0 ng f g') : SumOk P pr w0 ng f (tabS [(k, g), (l, g')]) := tabS_ok (by
  intro p hp
  simp at hp
  rcases hp with rfl | rfl
  · exact h
  · exact h')
/-- Rows that came in, by their names. -/
theorem sim_rows (W : World) (l : Nat → Nat × Nat) {os : List (Nat × AObj)} {n : Nat} (hs : smallN os = true) (hn : n ≤ limit)
    (h : ∀ p ∈ os, p.1 < n ∧ ∃ vs, p.2 = .rov vs ∧ ∀ (i : Nat) (u : Value), vs[i]? = some u → (l p.1).1 < W.heap.size ∧ W.cell? ⟨(l p.1).1, (l p.1).2 + i, none⟩ = some u ∧ Pure u) :
    Sim Prot.all W 0 { loc := l, ext := fun _ => 0, fz := fun b => b < W.heap.size, wb := W } (mkHp n os) W := by
  have hget : ∀ n' o, (mkHp n os).get n' = some o → (n', o) ∈ os := by
    intro n' o hg
    simp only [Hp.get, mkHp, mkT_get os n' (smallN_spec hs)] at hg
    exact look_mem os n' o hg
  have hrov : ∀ n' o, (mkHp n os).get n' = some o → ∃ vs, o = .rov vs := fun n' o hg => by
    obtain ⟨_, vs, h1, _⟩ := h _ (hget n' o hg); exact ⟨vs, h1⟩
  exact
    { os := rfl, tape := rfl, output := rfl, size := Nat.le_refl _, prot := fun _ _ _ => rfl
      lt := fun n' o hg => (h _ (hget n' o hg)).1
      obj := fun n' o hg => by obtain ⟨vs, rfl⟩ := hrov n' o hg; trivial
      blk := fun n' o hg hl => by obtain ⟨vs, rfl⟩ := hrov n' o hg; cases hl
      free := fun n' o hg hl => by obtain ⟨vs, rfl⟩ := hrov n' o hg; cases hl
      inj := fun n' m o o' hg hg' hl => by obtain ⟨vs, rfl⟩ := hrov n' o hg; cases hl
      lim := hn
      glob := fun g hg => by omega
      ro := fun n' o hg => by
        obtain ⟨_, vs, h1, h2⟩ := h _ (hget n' o hg)
        simp only at h1
        subst h1
        intro i u hu
        obtain ⟨g1, g2, g3⟩ := h2 i u hu
        exact ⟨g1, g1, g2, g3⟩
      fro := fun b hb => ⟨hb, rfl⟩
      ffree := fun n' o hg hl => by obtain ⟨vs, rfl⟩ := hrov n' o hg; cases hl
      pfz := fun _ _ _ _ => trivial }
/-- What a contract that says nothing of memory says of a world. -/
theorem con_below {f : Nat} {args : (Nat → Nat) → List Value} {os : List (Nat × AObj)} {k : Nat} {v : Value} (hc : ConOk P f ⟨args, os, k, fun _ => v, fun _ => []⟩) (hv : Pure v) (W : World) (l : Nat → Nat × Nat)
    (h : ∀ p ∈ os, p.1 < k ∧ ∃ vs, p.2 = .rov vs ∧ ∀ (i : Nat) (u : Value), vs[i]? = some u → (l p.1).1 < W.heap.size ∧ W.cell? ⟨(l p.1).1, (l p.1).2 + i, none⟩ = some u ∧ Pure u) :
    Calls P f ((args fun n => n).map (conc { loc := l, ext := fun _ => 0, fz := fun b => b < W.heap.size, wb := W })).toArray W fun e w' => e = .returned v ∧ RowKit.Below W.heap.size W w' := by
  obtain ⟨μL', hL, _, _⟩ := hc.run
  exact below_of_local hL hv (sim_rows W l hc.small hc.lim h)
end
end Go.Abs
end

section
set_option linter.unusedVariables false
set_option linter.unusedSimpArgs false
set_option linter.unusedSectionVars false
/-
  ClusterChecks: the law, where the arguments may not be, or the weights.
-/
namespace Go.Abs
open Go.Proofs
set_option maxRecDepth 100000
set_option maxHeartbeats 4000000
set_option linter.unusedVariables false
theorem con_over {P : Program} {E : Env} (hP : Okk P E) {f : Nat} {args : (Nat → Nat) → List Value} {os : List (Nat × AObj)} {k : Nat} {n : Nat} {orc : List Ans} {n1 : Nat} {s : Sm} (hs : ∀ pr w0, SmOk P E pr w0 s)
    (h : RanC (runO P E s noRun n f (args fun n => n) (mkHp k []) orc True) (.returned (.bool true)) [] n1) (hF : Fits k [] os k) (h1 : k ≤ n1) (h2 : n1 ≤ limit) (ha : ∀ x ∈ (args fun n => n), Bd k x) (ua : ∀ σ, args σ = (args fun n => n).map (upV σ)) : ConOk P f ⟨args, os, k, fun _ => .bool true, fun _ => []⟩ := by
  have hc := con_read0 hP hs (os := []) h ⟨rfl, rfl, by simp, by simp, hF.lim, Nat.le_refl _⟩ h1 h2 ha (by simp) ua (by intro σ; simp [upV])
  refine ⟨hF.so, fun p hp => (hF.bo p hp).1, ha, fun o ho => by simp at ho, hF.lim, ua, by intro σ; simp [upV], fun _ => rfl, ?_⟩
  obtain ⟨μL', hL, h3, h4⟩ := hc.run
  refine ⟨μL', ?_, h3, h4⟩
  intro pr w0 ι w hS
  exact hL pr w0 ι w { os := hS.os, tape := hS.tape, output := hS.output, size := hS.size, prot := hS.prot
                       lt := fun n o hg => by simp [mkHp, mkT, Hp.get, Tr.get] at hg
                       obj := fun n o hg => by simp [mkHp, mkT, Hp.get, Tr.get] at hg
                       blk := fun n o hg => by simp [mkHp, mkT, Hp.get, Tr.get] at hg
                       free := fun n o hg => by simp [mkHp, mkT, Hp.get, Tr.get] at hg
                       inj := fun n m o o' hg => by simp [mkHp, mkT, Hp.get, Tr.get] at hg
                       lim := hF.lim
                       glob := fun g hg => by omega
                       ro := fun n o hg => by simp [mkHp, mkT, Hp.get, Tr.get] at hg
                       fro := hS.fro
                       ffree := fun n o hg => by simp [mkHp, mkT, Hp.get, Tr.get] at hg
                       pfz := hS.pfz }
theorem ints_in (ws : List Int) (i : Nat) (b : Int) (h : ws[i]? = some b) : (ints ws)[0 + i]? = some (.int .i64 b) := by rw [Nat.zero_add]; simp [ints, h]
theorem lawA_NN   (ca : Int) (fa : Nat) (ch se ro le lc : Int)    (hfa : fa < 18446744073709551616) (h : chk5 0 0 ca ch se ro le lc = false) : ConOk Tryz.prog 3 ⟨fun σ => [.agg ⟨cf (.slice none 0 0) (.slice none 0 0) ca fa ch se ro le lc⟩], [], 2, fun _ => .bool true, fun _ => []⟩ := by
  have h16 : ∀ pr w0, SumOk Tryz.prog pr w0 E1.ng 16 (tabS [([], viewS [] n16), ([], viewS [] n16)]) := fun pr w0 => tab2_ok (viewS_ok n16_ok []) (viewS_ok n16_ok [])
  have h23 : ∀ pr w0, SumOk Tryz.prog pr w0 E1.ng 23 (tabS [([], viewS [] n23), ([], viewS [] n23)]) := fun pr w0 => tab2_ok (viewS_ok n23_ok []) (viewS_ok n23_ok [])
  have h24 : ∀ pr w0, SumOk Tryz.prog pr w0 E1.ng 24 (tabS [([5], viewS [5] (w24 0 (row16 [] 0 (m16 0) (m16 0)))), ([6], viewS [6] (w24 0 (row16 [] 0 (m16 0) (m16 0))))]) := fun pr w0 => tab2_ok (viewS_ok (w24_ok (by omega)) [5]) (viewS_ok (w24_ok (by omega)) [6])
  have h25 : ∀ pr w0, SumOk Tryz.prog pr w0 E1.ng 25 (tabS [([5] ++ [], viewS [5] (n25 (2 * m16 0))), ([6] ++ [], viewS [6] (n25 (2 * m16 0)))]) := fun pr w0 => tab2_ok (viewS_ok (n25_ok (2 * m16 0)) [5]) (viewS_ok (n25_ok (2 * m16 0)) [6])
  have h26 : ∀ pr w0, SumOk Tryz.prog pr w0 E1.ng 26 (fnS fun _ => some ([], f26 fa)) := fun pr w0 => fnS_ok (by intro args τ c hh; simp only [Option.some.injEq, Prod.mk.injEq] at hh; obtain ⟨_, rfl⟩ := hh; exact f26_ok hfa)
  have h5 := con5_arg (row16 [] 0 (m16 0) (m16 0)) (row16 [] 0 (m16 0) (m16 0)) 0 0 (2 * m16 0) (2 * m16 0) 0 0 ca fa ch se ro le lc h
  have h7 := con7_arg (fun σ => none) (fun σ => none) (by intro σ n c; simp [upV]) (by intro σ n c; simp [upV]) (by intro N n c hN; simp; try omega) (by intro N n c hN; simp; try omega) 0 0 0 0 ca fa ch se ro le lc h
  refine con_read0 hP1 (s := tNN ca fa ch se ro le lc) (fun pr w0 => withS_ok (withS_ok (withS_ok (withS_ok (withS_ok (withS_ok (withS_ok (sm0_ok pr w0) (h16 pr w0)) (h23 pr w0)) (h24 pr w0)) (h25 pr w0)) (h26 pr w0)) (tab1_ok (viewS_ok h5 [5, 6]))) (tab1_ok (viewS_ok h7 [0, 0])))
    (aNN_came ca fa ch se ro le lc (by simp) (by simp) (by simp) (by simp) (by simp) (by simp)) ⟨rfl, rfl, by simp, by simp [BdO], by decide, by decide⟩ (by decide) (by decide) (by simp [cf]) (by simp) (by intro σ; simp [upV, cf]) (by intro σ; simp [upV])
theorem lawA_NV  (o' c1 : Nat) (sp' : Option Nat) (ca : Int) (fa : Nat) (ch se ro le lc : Int)    (hfa : fa < 18446744073709551616) (h : chk5 0 0 ca ch se ro le lc = false) : ConOk Tryz.prog 3 ⟨fun σ => [.agg ⟨cf (.slice none 0 0) (.slice (some ⟨σ 1, o', sp'⟩) 0 c1) ca fa ch se ro le lc⟩], [], 2, fun _ => .bool true, fun _ => []⟩ := by
  have h16 : ∀ pr w0, SumOk Tryz.prog pr w0 E1.ng 16 (tabS [([], viewS [] n16), ([1], viewS [1] (v16 o' sp' c1))]) := fun pr w0 => tab2_ok (viewS_ok n16_ok []) (viewS_ok (v16_ok o' sp' c1) [1])
  have h23 : ∀ pr w0, SumOk Tryz.prog pr w0 E1.ng 23 (tabS [([], viewS [] n23), ([1], viewS [1] (v23 o' sp' c1))]) := fun pr w0 => tab2_ok (viewS_ok n23_ok []) (viewS_ok (v23_ok o' sp' c1) [1])
  have h24 : ∀ pr w0, SumOk Tryz.prog pr w0 E1.ng 24 (tabS [([5], viewS [5] (w24 0 (row16 [] 0 (m16 0) (m16 0)))), ([6], viewS [6] (w24 0 (row16 [] 0 (m16 0) (m16 0))))]) := fun pr w0 => tab2_ok (viewS_ok (w24_ok (by omega)) [5]) (viewS_ok (w24_ok (by omega)) [6])
  have h25 : ∀ pr w0, SumOk Tryz.prog pr w0 E1.ng 25 (tabS [([5] ++ [], viewS [5] (n25 (2 * m16 0))), ([6] ++ [1], viewS [6, 1] (v25 o' sp' (2 * m16 0) c1))]) := fun pr w0 => tab2_ok (viewS_ok (n25_ok (2 * m16 0)) [5]) (viewS_ok (v25_ok o' sp' (2 * m16 0) c1) [6, 1])
  have h26 : ∀ pr w0, SumOk Tryz.prog pr w0 E1.ng 26 (fnS fun _ => some ([], f26 fa)) := fun pr w0 => fnS_ok (by intro args τ c hh; simp only [Option.some.injEq, Prod.mk.injEq] at hh; obtain ⟨_, rfl⟩ := hh; exact f26_ok hfa)
  have h5 := con5_arg (row16 [] 0 (m16 0) (m16 0)) (row16 [] 0 (m16 0) (m16 0)) 0 0 (2 * m16 0) (2 * m16 0) 0 0 ca fa ch se ro le lc h
  have h7 := con7_arg (fun σ => none) (fun σ => none) (by intro σ n c; simp [upV]) (by intro σ n c; simp [upV]) (by intro N n c hN; simp; try omega) (by intro N n c hN; simp; try omega) 0 0 0 0 ca fa ch se ro le lc h
  refine con_read0 hP1 (s := tNV o' c1 sp' ca fa ch se ro le lc) (fun pr w0 => withS_ok (withS_ok (withS_ok (withS_ok (withS_ok (withS_ok (withS_ok (sm0_ok pr w0) (h16 pr w0)) (h23 pr w0)) (h24 pr w0)) (h25 pr w0)) (h26 pr w0)) (tab1_ok (viewS_ok h5 [5, 6]))) (tab1_ok (viewS_ok h7 [0, 0])))
    (aNV_came o' c1 sp' ca fa ch se ro le lc (by simp) (by simp) (by simp) (by simp) (by simp) (by simp)) ⟨rfl, rfl, by simp, by simp [BdO], by decide, by decide⟩ (by decide) (by decide) (by simp [cf]) (by simp) (by intro σ; simp [upV, cf]) (by intro σ; simp [upV])
theorem lawA_NR  (o' c1 m : Nat) (us : List Value) (gs : List Int) (ca : Int) (fa : Nat) (ch se ro le lc : Int)  (hus : ∀ i b, gs[i]? = some b → us[o' + i]? = some (.int .i64 b)) (hg : gs.length = m + 1) (hs1 : (m + 1) ≤ 1048576) (hfa : fa < 18446744073709551616) (h : chk5 0 (m + 1) ca ch se ro le lc = false) : ConOk Tryz.prog 3 ⟨fun σ => [.agg ⟨cf (.slice none 0 0) (.slice (some ⟨σ 1, o', none⟩) (m + 1) c1) ca fa ch se ro le lc⟩], [(1, .rov us)], 2, fun _ => .bool true, fun _ => []⟩ := by
  have h16 : ∀ pr w0, SumOk Tryz.prog pr w0 E1.ng 16 (tabS [([], viewS [] n16), ([1], viewS [1] (w16 o' c1 (m + 1) us gs))]) := fun pr w0 => tab2_ok (viewS_ok n16_ok []) (viewS_ok (w16_ok hus hg (by omega)) [1])
  have h23 : ∀ pr w0, SumOk Tryz.prog pr w0 E1.ng 23 (tabS [([], viewS [] n23), ([1], viewS [1] (con23 o' c1 (m + 1) us gs))]) := fun pr w0 => tab2_ok (viewS_ok n23_ok []) (viewS_ok (con23_ok hus hg (by omega) (by omega)) [1])
  have h24 : ∀ pr w0, SumOk Tryz.prog pr w0 E1.ng 24 (tabS [([5], viewS [5] (w24 0 (row16 [] 0 (m16 0) (m16 0)))), ([6], viewS [6] (w24 (m + 1) (row16 gs (m + 1) (m16 (m + 1)) (m16 (m + 1)))))]) := fun pr w0 => tab2_ok (viewS_ok (w24_ok (by omega)) [5]) (viewS_ok (w24_ok (by omega)) [6])
  have h25 : ∀ pr w0, SumOk Tryz.prog pr w0 E1.ng 25 (tabS [([5] ++ [], viewS [5] (n25 (2 * m16 0))), ([6] ++ [1], viewS [6, 1] (w25 o' c1 (m + 1) us gs))]) := fun pr w0 => tab2_ok (viewS_ok (n25_ok (2 * m16 0)) [5]) (viewS_ok (w25_ok hus hg (by omega)) [6, 1])
  have h26 : ∀ pr w0, SumOk Tryz.prog pr w0 E1.ng 26 (fnS fun _ => some ([], f26 fa)) := fun pr w0 => fnS_ok (by intro args τ c hh; simp only [Option.some.injEq, Prod.mk.injEq] at hh; obtain ⟨_, rfl⟩ := hh; exact f26_ok hfa)
  have h5 := con5_arg (row16 [] 0 (m16 0) (m16 0)) (row16 gs (m + 1) (m16 (m + 1)) (m16 (m + 1))) 0 0 (2 * m16 0) (2 * m16 (m + 1)) 0 (m + 1) ca fa ch se ro le lc h
  have h7 := con7_arg (fun σ => none) (fun σ => some ⟨σ 1, 0, none⟩) (by intro σ n c; simp [upV]) (by intro σ n c; simp [upV]) (by intro N n c hN; simp; try omega) (by intro N n c hN; simp; try omega) 0 (2 * (m + 1) + 1) 0 (m + 1) ca fa ch se ro le lc h
  refine con_read0 hP1 (s := tNR o' c1 m us gs ca fa ch se ro le lc) (fun pr w0 => withS_ok (withS_ok (withS_ok (withS_ok (withS_ok (withS_ok (withS_ok (sm0_ok pr w0) (h16 pr w0)) (h23 pr w0)) (h24 pr w0)) (h25 pr w0)) (h26 pr w0)) (tab1_ok (viewS_ok h5 [5, 6]))) (tab1_ok (viewS_ok h7 [0, 11])))
    (aNR_came o' c1 m us gs ca fa ch se ro le lc (by simp; omega) (row16_atom _ _ _ _) (by simp) (by simp) (by simp) (by simp) (by simp) (by simp)) ⟨rfl, rfl, by simp, by simp [BdO], by decide, by decide⟩ (by decide) (by decide) (by simp [cf]) (by simp) (by intro σ; simp [upV, cf]) (by intro σ; simp [upV])
theorem lawy_NR  (o' c1 m : Nat) (us : List Value) (gs : List Int) (ca : Int) (fa : Nat) (ch se ro le lc : Int) (hs : 1048576 < (m + 1)) : ConOk Tryz.prog 3 ⟨fun σ => [.agg ⟨cf (.slice none 0 0) (.slice (some ⟨σ 1, o', none⟩) (m + 1) c1) ca fa ch se ro le lc⟩], [(1, .rov us)], 2, fun _ => .bool true, fun _ => []⟩ := by
  have hh := cut_ranC (ly_came none (some ⟨1, o', none⟩) 0 0 (m + 1) c1 ca fa ch se ro le lc (by simp) (by simp; omega))
  exact con_over hP1 (s := sm0) (fun pr w0 => sm0_ok pr w0) hh ⟨rfl, rfl, by simp, by simp [BdO], by decide, by decide⟩ (by decide) (by decide) (by simp [cf]) (by intro σ; simp [upV, cf])
theorem lawA_VN (o c0 : Nat) (sp : Option Nat)  (ca : Int) (fa : Nat) (ch se ro le lc : Int)    (hfa : fa < 18446744073709551616) (h : chk5 0 0 ca ch se ro le lc = false) : ConOk Tryz.prog 3 ⟨fun σ => [.agg ⟨cf (.slice (some ⟨σ 0, o, sp⟩) 0 c0) (.slice none 0 0) ca fa ch se ro le lc⟩], [], 2, fun _ => .bool true, fun _ => []⟩ := by
  have h16 : ∀ pr w0, SumOk Tryz.prog pr w0 E1.ng 16 (tabS [([0], viewS [0] (v16 o sp c0)), ([], viewS [] n16)]) := fun pr w0 => tab2_ok (viewS_ok (v16_ok o sp c0) [0]) (viewS_ok n16_ok [])
  have h23 : ∀ pr w0, SumOk Tryz.prog pr w0 E1.ng 23 (tabS [([0], viewS [0] (v23 o sp c0)), ([], viewS [] n23)]) := fun pr w0 => tab2_ok (viewS_ok (v23_ok o sp c0) [0]) (viewS_ok n23_ok [])
  have h24 : ∀ pr w0, SumOk Tryz.prog pr w0 E1.ng 24 (tabS [([5], viewS [5] (w24 0 (row16 [] 0 (m16 0) (m16 0)))), ([6], viewS [6] (w24 0 (row16 [] 0 (m16 0) (m16 0))))]) := fun pr w0 => tab2_ok (viewS_ok (w24_ok (by omega)) [5]) (viewS_ok (w24_ok (by omega)) [6])
  have h25 : ∀ pr w0, SumOk Tryz.prog pr w0 E1.ng 25 (tabS [([5] ++ [0], viewS [5, 0] (v25 o sp (2 * m16 0) c0)), ([6] ++ [], viewS [6] (n25 (2 * m16 0)))]) := fun pr w0 => tab2_ok (viewS_ok (v25_ok o sp (2 * m16 0) c0) [5, 0]) (viewS_ok (n25_ok (2 * m16 0)) [6])
  have h26 : ∀ pr w0, SumOk Tryz.prog pr w0 E1.ng 26 (fnS fun _ => some ([], f26 fa)) := fun pr w0 => fnS_ok (by intro args τ c hh; simp only [Option.some.injEq, Prod.mk.injEq] at hh; obtain ⟨_, rfl⟩ := hh; exact f26_ok hfa)
  have h5 := con5_arg (row16 [] 0 (m16 0) (m16 0)) (row16 [] 0 (m16 0) (m16 0)) 0 0 (2 * m16 0) (2 * m16 0) 0 0 ca fa ch se ro le lc h
  have h7 := con7_arg (fun σ => none) (fun σ => none) (by intro σ n c; simp [upV]) (by intro σ n c; simp [upV]) (by intro N n c hN; simp; try omega) (by intro N n c hN; simp; try omega) 0 0 0 0 ca fa ch se ro le lc h
  refine con_read0 hP1 (s := tVN o c0 sp ca fa ch se ro le lc) (fun pr w0 => withS_ok (withS_ok (withS_ok (withS_ok (withS_ok (withS_ok (withS_ok (sm0_ok pr w0) (h16 pr w0)) (h23 pr w0)) (h24 pr w0)) (h25 pr w0)) (h26 pr w0)) (tab1_ok (viewS_ok h5 [5, 6]))) (tab1_ok (viewS_ok h7 [0, 0])))
    (aVN_came o c0 sp ca fa ch se ro le lc (by simp) (by simp) (by simp) (by simp) (by simp) (by simp)) ⟨rfl, rfl, by simp, by simp [BdO], by decide, by decide⟩ (by decide) (by decide) (by simp [cf]) (by simp) (by intro σ; simp [upV, cf]) (by intro σ; simp [upV])
theorem lawA_VV (o c0 : Nat) (sp : Option Nat) (o' c1 : Nat) (sp' : Option Nat) (ca : Int) (fa : Nat) (ch se ro le lc : Int)    (hfa : fa < 18446744073709551616) (h : chk5 0 0 ca ch se ro le lc = false) : ConOk Tryz.prog 3 ⟨fun σ => [.agg ⟨cf (.slice (some ⟨σ 0, o, sp⟩) 0 c0) (.slice (some ⟨σ 1, o', sp'⟩) 0 c1) ca fa ch se ro le lc⟩], [], 2, fun _ => .bool true, fun _ => []⟩ := by
  have h16 : ∀ pr w0, SumOk Tryz.prog pr w0 E1.ng 16 (tabS [([0], viewS [0] (v16 o sp c0)), ([1], viewS [1] (v16 o' sp' c1))]) := fun pr w0 => tab2_ok (viewS_ok (v16_ok o sp c0) [0]) (viewS_ok (v16_ok o' sp' c1) [1])
  have h23 : ∀ pr w0, SumOk Tryz.prog pr w0 E1.ng 23 (tabS [([0], viewS [0] (v23 o sp c0)), ([1], viewS [1] (v23 o' sp' c1))]) := fun pr w0 => tab2_ok (viewS_ok (v23_ok o sp c0) [0]) (viewS_ok (v23_ok o' sp' c1) [1])
  have h24 : ∀ pr w0, SumOk Tryz.prog pr w0 E1.ng 24 (tabS [([5], viewS [5] (w24 0 (row16 [] 0 (m16 0) (m16 0)))), ([6], viewS [6] (w24 0 (row16 [] 0 (m16 0) (m16 0))))]) := fun pr w0 => tab2_ok (viewS_ok (w24_ok (by omega)) [5]) (viewS_ok (w24_ok (by omega)) [6])
  have h25 : ∀ pr w0, SumOk Tryz.prog pr w0 E1.ng 25 (tabS [([5] ++ [0], viewS [5, 0] (v25 o sp (2 * m16 0) c0)), ([6] ++ [1], viewS [6, 1] (v25 o' sp' (2 * m16 0) c1))]) := fun pr w0 => tab2_ok (viewS_ok (v25_ok o sp (2 * m16 0) c0) [5, 0]) (viewS_ok (v25_ok o' sp' (2 * m16 0) c1) [6, 1])
  have h26 : ∀ pr w0, SumOk Tryz.prog pr w0 E1.ng 26 (fnS fun _ => some ([], f26 fa)) := fun pr w0 => fnS_ok (by intro args τ c hh; simp only [Option.some.injEq, Prod.mk.injEq] at hh; obtain ⟨_, rfl⟩ := hh; exact f26_ok hfa)
  have h5 := con5_arg (row16 [] 0 (m16 0) (m16 0)) (row16 [] 0 (m16 0) (m16 0)) 0 0 (2 * m16 0) (2 * m16 0) 0 0 ca fa ch se ro le lc h
  have h7 := con7_arg (fun σ => none) (fun σ => none) (by intro σ n c; simp [upV]) (by intro σ n c; simp [upV]) (by intro N n c hN; simp; try omega) (by intro N n c hN; simp; try omega) 0 0 0 0 ca fa ch se ro le lc h
  refine con_read0 hP1 (s := tVV o c0 sp o' c1 sp' ca fa ch se ro le lc) (fun pr w0 => withS_ok (withS_ok (withS_ok (withS_ok (withS_ok (withS_ok (withS_ok (sm0_ok pr w0) (h16 pr w0)) (h23 pr w0)) (h24 pr w0)) (h25 pr w0)) (h26 pr w0)) (tab1_ok (viewS_ok h5 [5, 6]))) (tab1_ok (viewS_ok h7 [0, 0])))
    (aVV_came o c0 sp o' c1 sp' ca fa ch se ro le lc (by simp) (by simp) (by simp) (by simp) (by simp) (by simp)) ⟨rfl, rfl, by simp, by simp [BdO], by decide, by decide⟩ (by decide) (by decide) (by simp [cf]) (by simp) (by intro σ; simp [upV, cf]) (by intro σ; simp [upV])
theorem lawA_VR (o c0 : Nat) (sp : Option Nat) (o' c1 m : Nat) (us : List Value) (gs : List Int) (ca : Int) (fa : Nat) (ch se ro le lc : Int)  (hus : ∀ i b, gs[i]? = some b → us[o' + i]? = some (.int .i64 b)) (hg : gs.length = m + 1) (hs1 : (m + 1) ≤ 1048576) (hfa : fa < 18446744073709551616) (h : chk5 0 (m + 1) ca ch se ro le lc = false) : ConOk Tryz.prog 3 ⟨fun σ => [.agg ⟨cf (.slice (some ⟨σ 0, o, sp⟩) 0 c0) (.slice (some ⟨σ 1, o', none⟩) (m + 1) c1) ca fa ch se ro le lc⟩], [(1, .rov us)], 2, fun _ => .bool true, fun _ => []⟩ := by
  have h16 : ∀ pr w0, SumOk Tryz.prog pr w0 E1.ng 16 (tabS [([0], viewS [0] (v16 o sp c0)), ([1], viewS [1] (w16 o' c1 (m + 1) us gs))]) := fun pr w0 => tab2_ok (viewS_ok (v16_ok o sp c0) [0]) (viewS_ok (w16_ok hus hg (by omega)) [1])
  have h23 : ∀ pr w0, SumOk Tryz.prog pr w0 E1.ng 23 (tabS [([0], viewS [0] (v23 o sp c0)), ([1], viewS [1] (con23 o' c1 (m + 1) us gs))]) := fun pr w0 => tab2_ok (viewS_ok (v23_ok o sp c0) [0]) (viewS_ok (con23_ok hus hg (by omega) (by omega)) [1])
  have h24 : ∀ pr w0, SumOk Tryz.prog pr w0 E1.ng 24 (tabS [([5], viewS [5] (w24 0 (row16 [] 0 (m16 0) (m16 0)))), ([6], viewS [6] (w24 (m + 1) (row16 gs (m + 1) (m16 (m + 1)) (m16 (m + 1)))))]) := fun pr w0 => tab2_ok (viewS_ok (w24_ok (by omega)) [5]) (viewS_ok (w24_ok (by omega)) [6])
  have h25 : ∀ pr w0, SumOk Tryz.prog pr w0 E1.ng 25 (tabS [([5] ++ [0], viewS [5, 0] (v25 o sp (2 * m16 0) c0)), ([6] ++ [1], viewS [6, 1] (w25 o' c1 (m + 1) us gs))]) := fun pr w0 => tab2_ok (viewS_ok (v25_ok o sp (2 * m16 0) c0) [5, 0]) (viewS_ok (w25_ok hus hg (by omega)) [6, 1])
  have h26 : ∀ pr w0, SumOk Tryz.prog pr w0 E1.ng 26 (fnS fun _ => some ([], f26 fa)) := fun pr w0 => fnS_ok (by intro args τ c hh; simp only [Option.some.injEq, Prod.mk.injEq] at hh; obtain ⟨_, rfl⟩ := hh; exact f26_ok hfa)
  have h5 := con5_arg (row16 [] 0 (m16 0) (m16 0)) (row16 gs (m + 1) (m16 (m + 1)) (m16 (m + 1))) 0 0 (2 * m16 0) (2 * m16 (m + 1)) 0 (m + 1) ca fa ch se ro le lc h
  have h7 := con7_arg (fun σ => none) (fun σ => some ⟨σ 1, 0, none⟩) (by intro σ n c; simp [upV]) (by intro σ n c; simp [upV]) (by intro N n c hN; simp; try omega) (by intro N n c hN; simp; try omega) 0 (2 * (m + 1) + 1) 0 (m + 1) ca fa ch se ro le lc h
  refine con_read0 hP1 (s := tVR o c0 sp o' c1 m us gs ca fa ch se ro le lc) (fun pr w0 => withS_ok (withS_ok (withS_ok (withS_ok (withS_ok (withS_ok (withS_ok (sm0_ok pr w0) (h16 pr w0)) (h23 pr w0)) (h24 pr w0)) (h25 pr w0)) (h26 pr w0)) (tab1_ok (viewS_ok h5 [5, 6]))) (tab1_ok (viewS_ok h7 [0, 11])))
    (aVR_came o c0 sp o' c1 m us gs ca fa ch se ro le lc (by simp; omega) (row16_atom _ _ _ _) (by simp) (by simp) (by simp) (by simp) (by simp) (by simp)) ⟨rfl, rfl, by simp, by simp [BdO], by decide, by decide⟩ (by decide) (by decide) (by simp [cf]) (by simp) (by intro σ; simp [upV, cf]) (by intro σ; simp [upV])
theorem lawy_VR (o c0 : Nat) (sp : Option Nat) (o' c1 m : Nat) (us : List Value) (gs : List Int) (ca : Int) (fa : Nat) (ch se ro le lc : Int) (hs : 1048576 < (m + 1)) : ConOk Tryz.prog 3 ⟨fun σ => [.agg ⟨cf (.slice (some ⟨σ 0, o, sp⟩) 0 c0) (.slice (some ⟨σ 1, o', none⟩) (m + 1) c1) ca fa ch se ro le lc⟩], [(1, .rov us)], 2, fun _ => .bool true, fun _ => []⟩ := by
  have hh := cut_ranC (ly_came (some ⟨0, o, sp⟩) (some ⟨1, o', none⟩) 0 c0 (m + 1) c1 ca fa ch se ro le lc (by simp) (by simp; omega))
  exact con_over hP1 (s := sm0) (fun pr w0 => sm0_ok pr w0) hh ⟨rfl, rfl, by simp, by simp [BdO], by decide, by decide⟩ (by decide) (by decide) (by simp [cf]) (by intro σ; simp [upV, cf])
theorem lawA_RN (o c0 n : Nat) (vs : List Value) (ws : List Int)  (ca : Int) (fa : Nat) (ch se ro le lc : Int) (hvs : ∀ i b, ws[i]? = some b → vs[o + i]? = some (.int .i64 b)) (hw : ws.length = n + 1)  (hs0 : (n + 1) ≤ 1048576) (hfa : fa < 18446744073709551616) (h : chk5 (n + 1) 0 ca ch se ro le lc = false) : ConOk Tryz.prog 3 ⟨fun σ => [.agg ⟨cf (.slice (some ⟨σ 0, o, none⟩) (n + 1) c0) (.slice none 0 0) ca fa ch se ro le lc⟩], [(0, .rov vs)], 2, fun _ => .bool true, fun _ => []⟩ := by
  have h16 : ∀ pr w0, SumOk Tryz.prog pr w0 E1.ng 16 (tabS [([0], viewS [0] (w16 o c0 (n + 1) vs ws)), ([], viewS [] n16)]) := fun pr w0 => tab2_ok (viewS_ok (w16_ok hvs hw (by omega)) [0]) (viewS_ok n16_ok [])
  have h23 : ∀ pr w0, SumOk Tryz.prog pr w0 E1.ng 23 (tabS [([0], viewS [0] (con23 o c0 (n + 1) vs ws)), ([], viewS [] n23)]) := fun pr w0 => tab2_ok (viewS_ok (con23_ok hvs hw (by omega) (by omega)) [0]) (viewS_ok n23_ok [])
  have h24 : ∀ pr w0, SumOk Tryz.prog pr w0 E1.ng 24 (tabS [([5], viewS [5] (w24 (n + 1) (row16 ws (n + 1) (m16 (n + 1)) (m16 (n + 1))))), ([6], viewS [6] (w24 0 (row16 [] 0 (m16 0) (m16 0))))]) := fun pr w0 => tab2_ok (viewS_ok (w24_ok (by omega)) [5]) (viewS_ok (w24_ok (by omega)) [6])
  have h25 : ∀ pr w0, SumOk Tryz.prog pr w0 E1.ng 25 (tabS [([5] ++ [0], viewS [5, 0] (w25 o c0 (n + 1) vs ws)), ([6] ++ [], viewS [6] (n25 (2 * m16 0)))]) := fun pr w0 => tab2_ok (viewS_ok (w25_ok hvs hw (by omega)) [5, 0]) (viewS_ok (n25_ok (2 * m16 0)) [6])
  have h26 : ∀ pr w0, SumOk Tryz.prog pr w0 E1.ng 26 (fnS fun _ => some ([], f26 fa)) := fun pr w0 => fnS_ok (by intro args τ c hh; simp only [Option.some.injEq, Prod.mk.injEq] at hh; obtain ⟨_, rfl⟩ := hh; exact f26_ok hfa)
  have h5 := con5_arg (row16 ws (n + 1) (m16 (n + 1)) (m16 (n + 1))) (row16 [] 0 (m16 0) (m16 0)) 0 0 (2 * m16 (n + 1)) (2 * m16 0) (n + 1) 0 ca fa ch se ro le lc h
  have h7 := con7_arg (fun σ => some ⟨σ 0, 0, none⟩) (fun σ => none) (by intro σ n c; simp [upV]) (by intro σ n c; simp [upV]) (by intro N n c hN; simp; try omega) (by intro N n c hN; simp; try omega) (2 * (n + 1) + 1) 0 (n + 1) 0 ca fa ch se ro le lc h
  refine con_read0 hP1 (s := tRN o c0 n vs ws ca fa ch se ro le lc) (fun pr w0 => withS_ok (withS_ok (withS_ok (withS_ok (withS_ok (withS_ok (withS_ok (sm0_ok pr w0) (h16 pr w0)) (h23 pr w0)) (h24 pr w0)) (h25 pr w0)) (h26 pr w0)) (tab1_ok (viewS_ok h5 [5, 6]))) (tab1_ok (viewS_ok h7 [11, 0])))
    (aRN_came o c0 n vs ws ca fa ch se ro le lc (by simp; omega) (row16_atom _ _ _ _) (by simp) (by simp) (by simp) (by simp) (by simp) (by simp)) ⟨rfl, rfl, by simp, by simp [BdO], by decide, by decide⟩ (by decide) (by decide) (by simp [cf]) (by simp) (by intro σ; simp [upV, cf]) (by intro σ; simp [upV])
theorem lawx_RN (o c0 n : Nat) (vs : List Value) (ws : List Int)  (ca : Int) (fa : Nat) (ch se ro le lc : Int) (hs : 1048576 < (n + 1)) : ConOk Tryz.prog 3 ⟨fun σ => [.agg ⟨cf (.slice (some ⟨σ 0, o, none⟩) (n + 1) c0) (.slice none 0 0) ca fa ch se ro le lc⟩], [(0, .rov vs)], 2, fun _ => .bool true, fun _ => []⟩ := by
  have hh := cut_ranC (lx_came (some ⟨0, o, none⟩) none (n + 1) c0 0 0 ca fa ch se ro le lc (by simp; omega))
  exact con_over hP1 (s := sm0) (fun pr w0 => sm0_ok pr w0) hh ⟨rfl, rfl, by simp, by simp [BdO], by decide, by decide⟩ (by decide) (by decide) (by simp [cf]) (by intro σ; simp [upV, cf])
theorem lawA_RV (o c0 n : Nat) (vs : List Value) (ws : List Int) (o' c1 : Nat) (sp' : Option Nat) (ca : Int) (fa : Nat) (ch se ro le lc : Int) (hvs : ∀ i b, ws[i]? = some b → vs[o + i]? = some (.int .i64 b)) (hw : ws.length = n + 1)  (hs0 : (n + 1) ≤ 1048576) (hfa : fa < 18446744073709551616) (h : chk5 (n + 1) 0 ca ch se ro le lc = false) : ConOk Tryz.prog 3 ⟨fun σ => [.agg ⟨cf (.slice (some ⟨σ 0, o, none⟩) (n + 1) c0) (.slice (some ⟨σ 1, o', sp'⟩) 0 c1) ca fa ch se ro le lc⟩], [(0, .rov vs)], 2, fun _ => .bool true, fun _ => []⟩ := by
  have h16 : ∀ pr w0, SumOk Tryz.prog pr w0 E1.ng 16 (tabS [([0], viewS [0] (w16 o c0 (n + 1) vs ws)), ([1], viewS [1] (v16 o' sp' c1))]) := fun pr w0 => tab2_ok (viewS_ok (w16_ok hvs hw (by omega)) [0]) (viewS_ok (v16_ok o' sp' c1) [1])
  have h23 : ∀ pr w0, SumOk Tryz.prog pr w0 E1.ng 23 (tabS [([0], viewS [0] (con23 o c0 (n + 1) vs ws)), ([1], viewS [1] (v23 o' sp' c1))]) := fun pr w0 => tab2_ok (viewS_ok (con23_ok hvs hw (by omega) (by omega)) [0]) (viewS_ok (v23_ok o' sp' c1) [1])
  have h24 : ∀ pr w0, SumOk Tryz.prog pr w0 E1.ng 24 (tabS [([5], viewS [5] (w24 (n + 1) (row16 ws (n + 1) (m16 (n + 1)) (m16 (n + 1))))), ([6], viewS [6] (w24 0 (row16 [] 0 (m16 0) (m16 0))))]) := fun pr w0 => tab2_ok (viewS_ok (w24_ok (by omega)) [5]) (viewS_ok (w24_ok (by omega)) [6])
  have h25 : ∀ pr w0, SumOk Tryz.prog pr w0 E1.ng 25 (tabS [([5] ++ [0], viewS [5, 0] (w25 o c0 (n + 1) vs ws)), ([6] ++ [1], viewS [6, 1] (v25 o' sp' (2 * m16 0) c1))]) := fun pr w0 => tab2_ok (viewS_ok (w25_ok hvs hw (by omega)) [5, 0]) (viewS_ok (v25_ok o' sp' (2 * m16 0) c1) [6, 1])
  have h26 : ∀ pr w0, SumOk Tryz.prog pr w0 E1.ng 26 (fnS fun _ => some ([], f26 fa)) := fun pr w0 => fnS_ok (by intro args τ c hh; simp only [Option.some.injEq, Prod.mk.injEq] at hh; obtain ⟨_, rfl⟩ := hh; exact f26_ok hfa)
  have h5 := con5_arg (row16 ws (n + 1) (m16 (n + 1)) (m16 (n + 1))) (row16 [] 0 (m16 0) (m16 0)) 0 0 (2 * m16 (n + 1)) (2 * m16 0) (n + 1) 0 ca fa ch se ro le lc h
  have h7 := con7_arg (fun σ => some ⟨σ 0, 0, none⟩) (fun σ => none) (by intro σ n c; simp [upV]) (by intro σ n c; simp [upV]) (by intro N n c hN; simp; try omega) (by intro N n c hN; simp; try omega) (2 * (n + 1) + 1) 0 (n + 1) 0 ca fa ch se ro le lc h
  refine con_read0 hP1 (s := tRV o c0 n vs ws o' c1 sp' ca fa ch se ro le lc) (fun pr w0 => withS_ok (withS_ok (withS_ok (withS_ok (withS_ok (withS_ok (withS_ok (sm0_ok pr w0) (h16 pr w0)) (h23 pr w0)) (h24 pr w0)) (h25 pr w0)) (h26 pr w0)) (tab1_ok (viewS_ok h5 [5, 6]))) (tab1_ok (viewS_ok h7 [11, 0])))
    (aRV_came o c0 n vs ws o' c1 sp' ca fa ch se ro le lc (by simp; omega) (row16_atom _ _ _ _) (by simp) (by simp) (by simp) (by simp) (by simp) (by simp)) ⟨rfl, rfl, by simp, by simp [BdO], by decide, by decide⟩ (by decide) (by decide) (by simp [cf]) (by simp) (by intro σ; simp [upV, cf]) (by intro σ; simp [upV])
theorem lawx_RV (o c0 n : Nat) (vs : List Value) (ws : List Int) (o' c1 : Nat) (sp' : Option Nat) (ca : Int) (fa : Nat) (ch se ro le lc : Int) (hs : 1048576 < (n + 1)) : ConOk Tryz.prog 3 ⟨fun σ => [.agg ⟨cf (.slice (some ⟨σ 0, o, none⟩) (n + 1) c0) (.slice (some ⟨σ 1, o', sp'⟩) 0 c1) ca fa ch se ro le lc⟩], [(0, .rov vs)], 2, fun _ => .bool true, fun _ => []⟩ := by
  have hh := cut_ranC (lx_came (some ⟨0, o, none⟩) (some ⟨1, o', sp'⟩) (n + 1) c0 0 c1 ca fa ch se ro le lc (by simp; omega))
  exact con_over hP1 (s := sm0) (fun pr w0 => sm0_ok pr w0) hh ⟨rfl, rfl, by simp, by simp [BdO], by decide, by decide⟩ (by decide) (by decide) (by simp [cf]) (by intro σ; simp [upV, cf])
theorem lawA_RR (o c0 n : Nat) (vs : List Value) (ws : List Int) (o' c1 m : Nat) (us : List Value) (gs : List Int) (ca : Int) (fa : Nat) (ch se ro le lc : Int) (hvs : ∀ i b, ws[i]? = some b → vs[o + i]? = some (.int .i64 b)) (hw : ws.length = n + 1) (hus : ∀ i b, gs[i]? = some b → us[o' + i]? = some (.int .i64 b)) (hg : gs.length = m + 1) (hs0 : (n + 1) ≤ 1048576) (hs1 : (m + 1) ≤ 1048576) (hfa : fa < 18446744073709551616) (h : chk5 (n + 1) (m + 1) ca ch se ro le lc = false) : ConOk Tryz.prog 3 ⟨fun σ => [.agg ⟨cf (.slice (some ⟨σ 0, o, none⟩) (n + 1) c0) (.slice (some ⟨σ 1, o', none⟩) (m + 1) c1) ca fa ch se ro le lc⟩], [(0, .rov vs), (1, .rov us)], 2, fun _ => .bool true, fun _ => []⟩ := by
  have h16 : ∀ pr w0, SumOk Tryz.prog pr w0 E1.ng 16 (tabS [([0], viewS [0] (w16 o c0 (n + 1) vs ws)), ([1], viewS [1] (w16 o' c1 (m + 1) us gs))]) := fun pr w0 => tab2_ok (viewS_ok (w16_ok hvs hw (by omega)) [0]) (viewS_ok (w16_ok hus hg (by omega)) [1])
  have h23 : ∀ pr w0, SumOk Tryz.prog pr w0 E1.ng 23 (tabS [([0], viewS [0] (con23 o c0 (n + 1) vs ws)), ([1], viewS [1] (con23 o' c1 (m + 1) us gs))]) := fun pr w0 => tab2_ok (viewS_ok (con23_ok hvs hw (by omega) (by omega)) [0]) (viewS_ok (con23_ok hus hg (by omega) (by omega)) [1])
  have h24 : ∀ pr w0, SumOk Tryz.prog pr w0 E1.ng 24 (tabS [([5], viewS [5] (w24 (n + 1) (row16 ws (n + 1) (m16 (n + 1)) (m16 (n + 1))))), ([6], viewS [6] (w24 (m + 1) (row16 gs (m + 1) (m16 (m + 1)) (m16 (m + 1)))))]) := fun pr w0 => tab2_ok (viewS_ok (w24_ok (by omega)) [5]) (viewS_ok (w24_ok (by omega)) [6])
  have h25 : ∀ pr w0, SumOk Tryz.prog pr w0 E1.ng 25 (tabS [([5] ++ [0], viewS [5, 0] (w25 o c0 (n + 1) vs ws)), ([6] ++ [1], viewS [6, 1] (w25 o' c1 (m + 1) us gs))]) := fun pr w0 => tab2_ok (viewS_ok (w25_ok hvs hw (by omega)) [5, 0]) (viewS_ok (w25_ok hus hg (by omega)) [6, 1])
  have h26 : ∀ pr w0, SumOk Tryz.prog pr w0 E1.ng 26 (fnS fun _ => some ([], f26 fa)) := fun pr w0 => fnS_ok (by intro args τ c hh; simp only [Option.some.injEq, Prod.mk.injEq] at hh; obtain ⟨_, rfl⟩ := hh; exact f26_ok hfa)
  have h5 := con5_arg (row16 ws (n + 1) (m16 (n + 1)) (m16 (n + 1))) (row16 gs (m + 1) (m16 (m + 1)) (m16 (m + 1))) 0 0 (2 * m16 (n + 1)) (2 * m16 (m + 1)) (n + 1) (m + 1) ca fa ch se ro le lc h
  have h7 := con7_arg (fun σ => some ⟨σ 0, 0, none⟩) (fun σ => some ⟨σ 1, 0, none⟩) (by intro σ n c; simp [upV]) (by intro σ n c; simp [upV]) (by intro N n c hN; simp; try omega) (by intro N n c hN; simp; try omega) (2 * (n + 1) + 1) (2 * (m + 1) + 1) (n + 1) (m + 1) ca fa ch se ro le lc h
  refine con_read0 hP1 (s := tRR o c0 n vs ws o' c1 m us gs ca fa ch se ro le lc) (fun pr w0 => withS_ok (withS_ok (withS_ok (withS_ok (withS_ok (withS_ok (withS_ok (sm0_ok pr w0) (h16 pr w0)) (h23 pr w0)) (h24 pr w0)) (h25 pr w0)) (h26 pr w0)) (tab1_ok (viewS_ok h5 [5, 6]))) (tab1_ok (viewS_ok h7 [11, 12])))
    (aRR_came o c0 n vs ws o' c1 m us gs ca fa ch se ro le lc (by simp; omega) (by simp; omega) (row16_atom _ _ _ _) (row16_atom _ _ _ _) (by simp) (by simp) (by simp) (by simp) (by simp) (by simp)) ⟨rfl, rfl, by simp, by simp [BdO], by decide, by decide⟩ (by decide) (by decide) (by simp [cf]) (by simp) (by intro σ; simp [upV, cf]) (by intro σ; simp [upV])
theorem lawx_RR (o c0 n : Nat) (vs : List Value) (ws : List Int) (o' c1 m : Nat) (us : List Value) (gs : List Int) (ca : Int) (fa : Nat) (ch se ro le lc : Int) (hs : 1048576 < (n + 1)) : ConOk Tryz.prog 3 ⟨fun σ => [.agg ⟨cf (.slice (some ⟨σ 0, o, none⟩) (n + 1) c0) (.slice (some ⟨σ 1, o', none⟩) (m + 1) c1) ca fa ch se ro le lc⟩], [(0, .rov vs), (1, .rov us)], 2, fun _ => .bool true, fun _ => []⟩ := by
  have hh := cut_ranC (lx_came (some ⟨0, o, none⟩) (some ⟨1, o', none⟩) (n + 1) c0 (m + 1) c1 ca fa ch se ro le lc (by simp; omega))
  exact con_over hP1 (s := sm0) (fun pr w0 => sm0_ok pr w0) hh ⟨rfl, rfl, by simp, by simp [BdO], by decide, by decide⟩ (by decide) (by decide) (by simp [cf]) (by intro σ; simp [upV, cf])
theorem lawy_RR (o c0 n : Nat) (vs : List Value) (ws : List Int) (o' c1 m : Nat) (us : List Value) (gs : List Int) (ca : Int) (fa : Nat) (ch se ro le lc : Int) (hs : 1048576 < (m + 1)) (hs0 : (n + 1) ≤ 1048576) : ConOk Tryz.prog 3 ⟨fun σ => [.agg ⟨cf (.slice (some ⟨σ 0, o, none⟩) (n + 1) c0) (.slice (some ⟨σ 1, o', none⟩) (m + 1) c1) ca fa ch se ro le lc⟩], [(0, .rov vs), (1, .rov us)], 2, fun _ => .bool true, fun _ => []⟩ := by
  have hh := cut_ranC (ly_came (some ⟨0, o, none⟩) (some ⟨1, o', none⟩) (n + 1) c0 (m + 1) c1 ca fa ch se ro le lc (by simp; omega) (by simp; omega))
  exact con_over hP1 (s := sm0) (fun pr w0 => sm0_ok pr w0) hh ⟨rfl, rfl, by simp, by simp [BdO], by decide, by decide⟩ (by decide) (by decide) (by simp [cf]) (by intro σ; simp [upV, cf])
theorem lawB (o c0 n : Nat) (vs : List Value) (ws : List Int) (o' c1 m : Nat) (us : List Value) (gs : List Int) (ca : Int) (fa : Nat) (ch se ro le lc : Int) (hvs : ∀ i b, ws[i]? = some b → vs[o + i]? = some (.int .i64 b)) (hw : ws.length = n + 1) (hus : ∀ i b, gs[i]? = some b → us[o' + i]? = some (.int .i64 b)) (hg : gs.length = m + 1) (hs0 : (n + 1) ≤ 1048576) (hs1 : (m + 1) ≤ 1048576) (hfa : fa < 18446744073709551616) (h : chk5 (n + 1) (m + 1) ca ch se ro le lc = true) (hno : ¬ good17 ws gs) : ConOk Tryz.prog 3 ⟨fun σ => [.agg ⟨cf (.slice (some ⟨σ 0, o, none⟩) (n + 1) c0) (.slice (some ⟨σ 1, o', none⟩) (m + 1) c1) ca fa ch se ro le lc⟩], [(0, .rov vs), (1, .rov us)], 2, fun _ => .bool true, fun _ => []⟩ := by
  have h16 : ∀ pr w0, SumOk Tryz.prog pr w0 E1.ng 16 (tabS [([0], viewS [0] (w16 o c0 (n + 1) vs ws)), ([1], viewS [1] (w16 o' c1 (m + 1) us gs))]) := fun pr w0 => tab2_ok (viewS_ok (w16_ok hvs hw (by omega)) [0]) (viewS_ok (w16_ok hus hg (by omega)) [1])
  have h23 : ∀ pr w0, SumOk Tryz.prog pr w0 E1.ng 23 (tabS [([0], viewS [0] (con23 o c0 (n + 1) vs ws)), ([1], viewS [1] (con23 o' c1 (m + 1) us gs))]) := fun pr w0 => tab2_ok (viewS_ok (con23_ok hvs hw (by omega) (by omega)) [0]) (viewS_ok (con23_ok hus hg (by omega) (by omega)) [1])
  have h24 : ∀ pr w0, SumOk Tryz.prog pr w0 E1.ng 24 (tabS [([5], viewS [5] (w24 (n + 1) (row16 ws (n + 1) (m16 (n + 1)) (m16 (n + 1))))), ([6], viewS [6] (w24 (m + 1) (row16 gs (m + 1) (m16 (m + 1)) (m16 (m + 1)))))]) := fun pr w0 => tab2_ok (viewS_ok (w24_ok (by omega)) [5]) (viewS_ok (w24_ok (by omega)) [6])
  have h25 : ∀ pr w0, SumOk Tryz.prog pr w0 E1.ng 25 (tabS [([5] ++ [0], viewS [5, 0] (w25 o c0 (n + 1) vs ws)), ([6] ++ [1], viewS [6, 1] (w25 o' c1 (m + 1) us gs))]) := fun pr w0 => tab2_ok (viewS_ok (w25_ok hvs hw (by omega)) [5, 0]) (viewS_ok (w25_ok hus hg (by omega)) [6, 1])
  have h26 : ∀ pr w0, SumOk Tryz.prog pr w0 E1.ng 26 (fnS fun _ => some ([], f26 fa)) := fun pr w0 => fnS_ok (by intro args τ c hh; simp only [Option.some.injEq, Prod.mk.injEq] at hh; obtain ⟨_, rfl⟩ := hh; exact f26_ok hfa)
  have h5 := con5_no (o := 0) (o' := 0) (c0 := 2 * m16 (n + 1)) (c1 := 2 * m16 (m + 1)) (fa := fa) (row16_in (n := n + 1) hw) (row16_in (n := m + 1) hg) (by rw [hw, hg]; exact h) hno
  have h7 := con7_no (o := 0) (o' := 0) (c0 := 2 * (n + 1) + 1) (c1 := 2 * (m + 1) + 1) (vs := ints ws) (us := ints gs) (fa := fa) (ints_in ws) (ints_in gs) (by rw [hw, hg]; exact h) hno
  rw [hw, hg] at h5 h7
  refine con_read0 hP1 (s := tB o c0 n vs ws o' c1 m us gs ca fa ch se ro le lc) (fun pr w0 => withS_ok (withS_ok (withS_ok (withS_ok (withS_ok (withS_ok (withS_ok (sm0_ok pr w0) (h16 pr w0)) (h23 pr w0)) (h24 pr w0)) (h25 pr w0)) (h26 pr w0)) (tab1_ok (viewS_ok h5 [5, 6]))) (tab1_ok (viewS_ok h7 [11, 12])))
    (aB_came o c0 n vs ws o' c1 m us gs ca fa ch se ro le lc (by simp; omega) (by simp; omega) (row16_atom _ _ _ _) (row16_atom _ _ _ _) (ints_atom _) (ints_atom _) (by simp) (by simp) (by simp) (by simp) (by simp) (by simp)) ⟨rfl, rfl, by simp, by simp [BdO], by decide, by decide⟩ (by decide) (by decide) (by simp [cf]) (by simp) (by intro σ; simp [upV, cf]) (by intro σ; simp [upV])
end Go.Abs
end

section
set_option linter.unusedVariables false
set_option linter.unusedSimpArgs false
set_option linter.unusedSectionVars false
/-
  ClusterChecks: the law over clusters of 1, 2, 3, 4.
-/

namespace Go.Abs
open Go.Proofs
set_option maxRecDepth 100000
set_option maxHeartbeats 4000000
set_option linter.unusedVariables false
theorem st17_pos {ws gs : List Int} : ∀ {k : Nat}, (∀ i, i < k → ok17 ws gs i) → (∃ a ∈ (st17 ws gs k).1, a ≠ 0) → 0 < (st17 ws gs k).2
  | 0, _, h => by simp [st17] at h
  | k + 1, hok, h => by
    have hok' : ∀ i, i < k → ok17 ws gs i := fun i hi => hok i (by omega)
    have hb := st17_bd hok'
    have hk := hok k (by omega)
    have ih := st17_pos hok'
    obtain ⟨a, ha, hne⟩ := h
    simp only [st17] at ha ⊢
    split
    · have := hb.2.1; omega
    · rename_i hn
      rcases List.mem_or_eq_of_mem_set ha with hm | rfl
      · exact ih ⟨a, hm, hne⟩
      · by_cases hz : (st17 ws gs k).1.getD (gs.getD k 0).toNat 0 = 0
        · have : ¬ ws.getD k 0 > 0 := fun h => hn ⟨hz, h⟩
          have := hk.1
          omega
        · have hl := st17_len ws gs k
          have hg : (gs.getD k 0).toNat < (st17 ws gs k).1.length := by rw [hl]; have := hk.2; omega
          exact ih ⟨_, List.mem_of_getElem? (getD_some hg), hz⟩
theorem st17_shape {ws gs : List Int} (h : good17 ws gs) : ∃ a0 a1 a2 a3 a4 a5 a6, ∃ k : Nat, st17 ws gs ws.length = ([a0, a1, a2, a3, a4, a5, a6], Int.ofNat (k + 1)) := by
  obtain ⟨hok, hex⟩ := h
  have hp := st17_pos hok ((st17_some hok).1 hex)
  have hl := st17_len ws gs ws.length
  generalize st17 ws gs ws.length = S at hp hl
  obtain ⟨al, c⟩ := S
  match al, hl with
  | [a0, a1, a2, a3, a4, a5, a6], _ =>
    refine ⟨a0, a1, a2, a3, a4, a5, a6, (c - 1).toNat, ?_⟩
    simp only [Prod.mk.injEq, true_and]
    simp only at hp
    rw [show Int.ofNat ((c - 1).toNat + 1) = (((c - 1).toNat + 1 : Nat) : Int) from rfl]
    omega

theorem lawC1 (o c0 : Nat) (vs : List Value) (ws : List Int) (o' c1 : Nat) (us : List Value) (gs : List Int) (ca : Int) (fa : Nat) (ch se ro le lc : Int) (hvs : ∀ i b, ws[i]? = some b → vs[o + i]? = some (.int .i64 b)) (hw : ws.length = 1) (hus : ∀ i b, gs[i]? = some b → us[o' + i]? = some (.int .i64 b)) (hg : gs.length = 1) (hfa : fa < 18446744073709551616) (h : chk5 1 1 ca ch se ro le lc = true) (hyes : good17 ws gs) :
    ConOk Tryz.prog 3 ⟨fun σ => [.agg ⟨cf (.slice (some ⟨σ 0, o, none⟩) 1 c0) (.slice (some ⟨σ 1, o', none⟩) 1 c1) ca fa ch se ro le lc⟩], oE vs us, 2, fun _ => .bool true, fun _ => []⟩ := by
  obtain ⟨a0, a1, a2, a3, a4, a5, a6, cnt, hS⟩ := st17_shape hyes
  have hro : 0 ≤ ro ∧ ro ≤ 16777216 := by
    simp only [chk5, b5c, Bool.and_eq_true, decide_eq_true_eq] at h
    omega
  have h5 := con5_yes (o := 0) (o' := 0) (c0 := 2 * m16 1) (c1 := 2 * m16 1) (fa := fa) (row16_in (n := 1) hw) (row16_in (n := 1) hg) (by rw [hw, hg]; exact h) hyes
  have h7 := con7_yes (o := 0) (o' := 0) (c0 := 2 * 1 + 1) (c1 := 2 * 1 + 1) (vs := ints ws) (us := ints gs) (fa := fa) (ints_in ws) (ints_in gs) (by rw [hw, hg]; exact h) hyes
  have h17 := con17_yes (o := 0) (o' := 0) (c0 := 2 * (0 + 1) + 1) (c1 := 2 * (0 + 1) + 1) (vs := ints ws) (us := ints gs) (ints_in ws) (ints_in gs) (by rw [hw, hg]) (by omega) (by omega) hyes
  rw [hw] at hS
  rw [hw, hg] at h5 h7
  simp only [hw, hS] at h17
  have h16 : ∀ pr w0, SumOk Tryz.prog pr w0 E1.ng 16 (tabS [([0], viewS [0] (w16r o c0 1 vs (row16 ws 1 (m16 1) (m16 1)))), ([1], viewS [1] (w16r o' c1 1 us (row16 gs 1 (m16 1) (m16 1))))]) := fun pr w0 => tab2_ok (viewS_ok (w16_ok hvs hw (by omega)) [0]) (viewS_ok (w16_ok hus hg (by omega)) [1])
  have h23 : ∀ pr w0, SumOk Tryz.prog pr w0 E1.ng 23 (tabS [([0], viewS [0] (con23 o c0 1 vs ws)), ([1], viewS [1] (con23 o' c1 1 us gs))]) := fun pr w0 => tab2_ok (viewS_ok (con23_ok hvs hw (by omega) (by omega)) [0]) (viewS_ok (con23_ok hus hg (by omega) (by omega)) [1])
  have h24 : ∀ pr w0, SumOk Tryz.prog pr w0 E1.ng 24 (tabS [([5], viewS [5] (w24 1 (row16 ws 1 (m16 1) (m16 1)))), ([6], viewS [6] (w24 1 (row16 gs 1 (m16 1) (m16 1))))]) := fun pr w0 => tab2_ok (viewS_ok (w24_ok (by omega)) [5]) (viewS_ok (w24_ok (by omega)) [6])
  have h25 : ∀ pr w0, SumOk Tryz.prog pr w0 E1.ng 25 (tabS [([5, 0], viewS [5, 0] (w25r o c0 1 vs (row16 ws 1 (m16 1) (m16 1)))), ([6, 1], viewS [6, 1] (w25r o' c1 1 us (row16 gs 1 (m16 1) (m16 1))))]) := fun pr w0 => tab2_ok (viewS_ok (w25_ok hvs hw (by omega)) [5, 0]) (viewS_ok (w25_ok hus hg (by omega)) [6, 1])
  have h26 : ∀ pr w0, SumOk Tryz.prog pr w0 E1.ng 26 (fnS fun _ => some ([], f26 fa)) := fun pr w0 => fnS_ok (by intro args τ c hh; simp only [Option.some.injEq, Prod.mk.injEq] at hh; obtain ⟨_, rfl⟩ := hh; exact f26_ok hfa)
  have h18 : ∀ pr w0, SumOk Tryz.prog pr w0 E1.ng 18 (tabS [([5], viewS [5] (w18 0 (2 * m16 1) 1 (row16 ws 1 (m16 1) (m16 1)) ws)), ([6], viewS [6] (w18 0 (2 * m16 1) 1 (row16 gs 1 (m16 1) (m16 1)) gs))]) := fun pr w0 => tab2_ok (viewS_ok (w18_ok (row16_in (n := 1) hw) hw (by omega) (by omega)) [5]) (viewS_ok (w18_ok (row16_in (n := 1) hg) hg (by omega) (by omega)) [6])
  have h20 : ∀ pr w0, SumOk Tryz.prog pr w0 E1.ng 20 (fnS fun _ => some ([], w20 ro)) := fun pr w0 => fnS_ok (by intro args τ c hh; simp only [Option.some.injEq, Prod.mk.injEq] at hh; obtain ⟨_, rfl⟩ := hh; exact w20_ok hro.1 hro.2)
  have h17' : ConOk Tryz.prog 17 (yesX (2 * (0 + 1) + 1) (2 * (0 + 1) + 1) 1 ws gs a0 a1 a2 a3 a4 a5 a6 (Int.ofNat (cnt + 1))) := h17
  exact con_read0 hP1 (s := tC1 o c0 vs ws o' c1 us gs (row16 ws 1 (m16 1) (m16 1)) (row16 gs 1 (m16 1) (m16 1)) ca fa ch se ro le lc a0 a1 a2 a3 a4 a5 a6 cnt) (fun pr w0 => withS_ok (withS_ok (withS_ok (withS_ok (withS_ok (withS_ok (withS_ok (withS_ok (withS_ok (withS_ok (sm0_ok pr w0) (h16 pr w0)) (h23 pr w0)) (h24 pr w0)) (h25 pr w0)) (h26 pr w0)) (tab1_ok (viewS_ok h5 [5, 6]))) (h18 pr w0)) (tab1_ok (viewS_ok h17' [10, 12]))) (h20 pr w0)) (tab1_ok (viewS_ok h7 [21, 22])))
    (aC1_came o c0 vs ws o' c1 us gs (row16 ws 1 (m16 1) (m16 1)) (row16 gs 1 (m16 1) (m16 1)) ca fa ch se ro le lc a0 a1 a2 a3 a4 a5 a6 cnt (row16_atom _ _ _ _) (row16_atom _ _ _ _) (ints_atom _) (ints_atom _) (by simp) (by simp) (by simp) (by simp) (by simp) (by simp) (by rfl)) (oE_fits (k := 0) rfl (by simp) (by decide) (by decide)) (by decide) (by decide) (by simp [cf]) (by simp) (by intro σ; simp [upV, cf]) (by intro σ; simp [upV])
theorem lawC2 (o c0 : Nat) (vs : List Value) (ws : List Int) (o' c1 : Nat) (us : List Value) (gs : List Int) (ca : Int) (fa : Nat) (ch se ro le lc : Int) (hvs : ∀ i b, ws[i]? = some b → vs[o + i]? = some (.int .i64 b)) (hw : ws.length = 2) (hus : ∀ i b, gs[i]? = some b → us[o' + i]? = some (.int .i64 b)) (hg : gs.length = 2) (hfa : fa < 18446744073709551616) (h : chk5 2 2 ca ch se ro le lc = true) (hyes : good17 ws gs) :
    ConOk Tryz.prog 3 ⟨fun σ => [.agg ⟨cf (.slice (some ⟨σ 0, o, none⟩) 2 c0) (.slice (some ⟨σ 1, o', none⟩) 2 c1) ca fa ch se ro le lc⟩], oE vs us, 2, fun _ => .bool true, fun _ => []⟩ := by
  obtain ⟨a0, a1, a2, a3, a4, a5, a6, cnt, hS⟩ := st17_shape hyes
  have hro : 0 ≤ ro ∧ ro ≤ 16777216 := by
    simp only [chk5, b5c, Bool.and_eq_true, decide_eq_true_eq] at h
    omega
  have h5 := con5_yes (o := 0) (o' := 0) (c0 := 2 * m16 2) (c1 := 2 * m16 2) (fa := fa) (row16_in (n := 2) hw) (row16_in (n := 2) hg) (by rw [hw, hg]; exact h) hyes
  have h7 := con7_yes (o := 0) (o' := 0) (c0 := 2 * 2 + 1) (c1 := 2 * 2 + 1) (vs := ints ws) (us := ints gs) (fa := fa) (ints_in ws) (ints_in gs) (by rw [hw, hg]; exact h) hyes
  have h17 := con17_yes (o := 0) (o' := 0) (c0 := 2 * (0 + 2) + 1) (c1 := 2 * (0 + 2) + 1) (vs := ints ws) (us := ints gs) (ints_in ws) (ints_in gs) (by rw [hw, hg]) (by omega) (by omega) hyes
  rw [hw] at hS
  rw [hw, hg] at h5 h7
  simp only [hw, hS] at h17
  have h16 : ∀ pr w0, SumOk Tryz.prog pr w0 E1.ng 16 (tabS [([0], viewS [0] (w16r o c0 2 vs (row16 ws 2 (m16 2) (m16 2)))), ([1], viewS [1] (w16r o' c1 2 us (row16 gs 2 (m16 2) (m16 2))))]) := fun pr w0 => tab2_ok (viewS_ok (w16_ok hvs hw (by omega)) [0]) (viewS_ok (w16_ok hus hg (by omega)) [1])
  have h23 : ∀ pr w0, SumOk Tryz.prog pr w0 E1.ng 23 (tabS [([0], viewS [0] (con23 o c0 2 vs ws)), ([1], viewS [1] (con23 o' c1 2 us gs))]) := fun pr w0 => tab2_ok (viewS_ok (con23_ok hvs hw (by omega) (by omega)) [0]) (viewS_ok (con23_ok hus hg (by omega) (by omega)) [1])
  have h24 : ∀ pr w0, SumOk Tryz.prog pr w0 E1.ng 24 (tabS [([5], viewS [5] (w24 2 (row16 ws 2 (m16 2) (m16 2)))), ([6], viewS [6] (w24 2 (row16 gs 2 (m16 2) (m16 2))))]) := fun pr w0 => tab2_ok (viewS_ok (w24_ok (by omega)) [5]) (viewS_ok (w24_ok (by omega)) [6])
  have h25 : ∀ pr w0, SumOk Tryz.prog pr w0 E1.ng 25 (tabS [([5, 0], viewS [5, 0] (w25r o c0 2 vs (row16 ws 2 (m16 2) (m16 2)))), ([6, 1], viewS [6, 1] (w25r o' c1 2 us (row16 gs 2 (m16 2) (m16 2))))]) := fun pr w0 => tab2_ok (viewS_ok (w25_ok hvs hw (by omega)) [5, 0]) (viewS_ok (w25_ok hus hg (by omega)) [6, 1])
  have h26 : ∀ pr w0, SumOk Tryz.prog pr w0 E1.ng 26 (fnS fun _ => some ([], f26 fa)) := fun pr w0 => fnS_ok (by intro args τ c hh; simp only [Option.some.injEq, Prod.mk.injEq] at hh; obtain ⟨_, rfl⟩ := hh; exact f26_ok hfa)
  have h18 : ∀ pr w0, SumOk Tryz.prog pr w0 E1.ng 18 (tabS [([5], viewS [5] (w18 0 (2 * m16 2) 2 (row16 ws 2 (m16 2) (m16 2)) ws)), ([6], viewS [6] (w18 0 (2 * m16 2) 2 (row16 gs 2 (m16 2) (m16 2)) gs))]) := fun pr w0 => tab2_ok (viewS_ok (w18_ok (row16_in (n := 2) hw) hw (by omega) (by omega)) [5]) (viewS_ok (w18_ok (row16_in (n := 2) hg) hg (by omega) (by omega)) [6])
  have h20 : ∀ pr w0, SumOk Tryz.prog pr w0 E1.ng 20 (fnS fun _ => some ([], w20 ro)) := fun pr w0 => fnS_ok (by intro args τ c hh; simp only [Option.some.injEq, Prod.mk.injEq] at hh; obtain ⟨_, rfl⟩ := hh; exact w20_ok hro.1 hro.2)
  have h17' : ConOk Tryz.prog 17 (yesX (2 * (0 + 2) + 1) (2 * (0 + 2) + 1) 2 ws gs a0 a1 a2 a3 a4 a5 a6 (Int.ofNat (cnt + 1))) := h17
  exact con_read0 hP1 (s := tC2 o c0 vs ws o' c1 us gs (row16 ws 2 (m16 2) (m16 2)) (row16 gs 2 (m16 2) (m16 2)) ca fa ch se ro le lc a0 a1 a2 a3 a4 a5 a6 cnt) (fun pr w0 => withS_ok (withS_ok (withS_ok (withS_ok (withS_ok (withS_ok (withS_ok (withS_ok (withS_ok (withS_ok (sm0_ok pr w0) (h16 pr w0)) (h23 pr w0)) (h24 pr w0)) (h25 pr w0)) (h26 pr w0)) (tab1_ok (viewS_ok h5 [5, 6]))) (h18 pr w0)) (tab1_ok (viewS_ok h17' [10, 12]))) (h20 pr w0)) (tab1_ok (viewS_ok h7 [22, 23])))
    (aC2_came o c0 vs ws o' c1 us gs (row16 ws 2 (m16 2) (m16 2)) (row16 gs 2 (m16 2) (m16 2)) ca fa ch se ro le lc a0 a1 a2 a3 a4 a5 a6 cnt (row16_atom _ _ _ _) (row16_atom _ _ _ _) (ints_atom _) (ints_atom _) (by simp) (by simp) (by simp) (by simp) (by simp) (by simp) (by rfl)) (oE_fits (k := 0) rfl (by simp) (by decide) (by decide)) (by decide) (by decide) (by simp [cf]) (by simp) (by intro σ; simp [upV, cf]) (by intro σ; simp [upV])
theorem lawC3 (o c0 : Nat) (vs : List Value) (ws : List Int) (o' c1 : Nat) (us : List Value) (gs : List Int) (ca : Int) (fa : Nat) (ch se ro le lc : Int) (hvs : ∀ i b, ws[i]? = some b → vs[o + i]? = some (.int .i64 b)) (hw : ws.length = 3) (hus : ∀ i b, gs[i]? = some b → us[o' + i]? = some (.int .i64 b)) (hg : gs.length = 3) (hfa : fa < 18446744073709551616) (h : chk5 3 3 ca ch se ro le lc = true) (hyes : good17 ws gs) :
    ConOk Tryz.prog 3 ⟨fun σ => [.agg ⟨cf (.slice (some ⟨σ 0, o, none⟩) 3 c0) (.slice (some ⟨σ 1, o', none⟩) 3 c1) ca fa ch se ro le lc⟩], oE vs us, 2, fun _ => .bool true, fun _ => []⟩ := by
  obtain ⟨a0, a1, a2, a3, a4, a5, a6, cnt, hS⟩ := st17_shape hyes
  have hro : 0 ≤ ro ∧ ro ≤ 16777216 := by
    simp only [chk5, b5c, Bool.and_eq_true, decide_eq_true_eq] at h
    omega
  have h5 := con5_yes (o := 0) (o' := 0) (c0 := 2 * m16 3) (c1 := 2 * m16 3) (fa := fa) (row16_in (n := 3) hw) (row16_in (n := 3) hg) (by rw [hw, hg]; exact h) hyes
  have h7 := con7_yes (o := 0) (o' := 0) (c0 := 2 * 3 + 1) (c1 := 2 * 3 + 1) (vs := ints ws) (us := ints gs) (fa := fa) (ints_in ws) (ints_in gs) (by rw [hw, hg]; exact h) hyes
  have h17 := con17_yes (o := 0) (o' := 0) (c0 := 2 * (0 + 3) + 1) (c1 := 2 * (0 + 3) + 1) (vs := ints ws) (us := ints gs) (ints_in ws) (ints_in gs) (by rw [hw, hg]) (by omega) (by omega) hyes
  rw [hw] at hS
  rw [hw, hg] at h5 h7
  simp only [hw, hS] at h17
  have h16 : ∀ pr w0, SumOk Tryz.prog pr w0 E1.ng 16 (tabS [([0], viewS [0] (w16r o c0 3 vs (row16 ws 3 (m16 3) (m16 3)))), ([1], viewS [1] (w16r o' c1 3 us (row16 gs 3 (m16 3) (m16 3))))]) := fun pr w0 => tab2_ok (viewS_ok (w16_ok hvs hw (by omega)) [0]) (viewS_ok (w16_ok hus hg (by omega)) [1])
  have h23 : ∀ pr w0, SumOk Tryz.prog pr w0 E1.ng 23 (tabS [([0], viewS [0] (con23 o c0 3 vs ws)), ([1], viewS [1] (con23 o' c1 3 us gs))]) := fun pr w0 => tab2_ok (viewS_ok (con23_ok hvs hw (by omega) (by omega)) [0]) (viewS_ok (con23_ok hus hg (by omega) (by omega)) [1])
  have h24 : ∀ pr w0, SumOk Tryz.prog pr w0 E1.ng 24 (tabS [([5], viewS [5] (w24 3 (row16 ws 3 (m16 3) (m16 3)))), ([6], viewS [6] (w24 3 (row16 gs 3 (m16 3) (m16 3))))]) := fun pr w0 => tab2_ok (viewS_ok (w24_ok (by omega)) [5]) (viewS_ok (w24_ok (by omega)) [6])
  have h25 : ∀ pr w0, SumOk Tryz.prog pr w0 E1.ng 25 (tabS [([5, 0], viewS [5, 0] (w25r o c0 3 vs (row16 ws 3 (m16 3) (m16 3)))), ([6, 1], viewS [6, 1] (w25r o' c1 3 us (row16 gs 3 (m16 3) (m16 3))))]) := fun pr w0 => tab2_ok (viewS_ok (w25_ok hvs hw (by omega)) [5, 0]) (viewS_ok (w25_ok hus hg (by omega)) [6, 1])
  have h26 : ∀ pr w0, SumOk Tryz.prog pr w0 E1.ng 26 (fnS fun _ => some ([], f26 fa)) := fun pr w0 => fnS_ok (by intro args τ c hh; simp only [Option.some.injEq, Prod.mk.injEq] at hh; obtain ⟨_, rfl⟩ := hh; exact f26_ok hfa)
  have h18 : ∀ pr w0, SumOk Tryz.prog pr w0 E1.ng 18 (tabS [([5], viewS [5] (w18 0 (2 * m16 3) 3 (row16 ws 3 (m16 3) (m16 3)) ws)), ([6], viewS [6] (w18 0 (2 * m16 3) 3 (row16 gs 3 (m16 3) (m16 3)) gs))]) := fun pr w0 => tab2_ok (viewS_ok (w18_ok (row16_in (n := 3) hw) hw (by omega) (by omega)) [5]) (viewS_ok (w18_ok (row16_in (n := 3) hg) hg (by omega) (by omega)) [6])
  have h20 : ∀ pr w0, SumOk Tryz.prog pr w0 E1.ng 20 (fnS fun _ => some ([], w20 ro)) := fun pr w0 => fnS_ok (by intro args τ c hh; simp only [Option.some.injEq, Prod.mk.injEq] at hh; obtain ⟨_, rfl⟩ := hh; exact w20_ok hro.1 hro.2)
  have h17' : ConOk Tryz.prog 17 (yesX (2 * (0 + 3) + 1) (2 * (0 + 3) + 1) 3 ws gs a0 a1 a2 a3 a4 a5 a6 (Int.ofNat (cnt + 1))) := h17
  exact con_read0 hP1 (s := tC3 o c0 vs ws o' c1 us gs (row16 ws 3 (m16 3) (m16 3)) (row16 gs 3 (m16 3) (m16 3)) ca fa ch se ro le lc a0 a1 a2 a3 a4 a5 a6 cnt) (fun pr w0 => withS_ok (withS_ok (withS_ok (withS_ok (withS_ok (withS_ok (withS_ok (withS_ok (withS_ok (withS_ok (sm0_ok pr w0) (h16 pr w0)) (h23 pr w0)) (h24 pr w0)) (h25 pr w0)) (h26 pr w0)) (tab1_ok (viewS_ok h5 [5, 6]))) (h18 pr w0)) (tab1_ok (viewS_ok h17' [10, 12]))) (h20 pr w0)) (tab1_ok (viewS_ok h7 [23, 24])))
    (aC3_came o c0 vs ws o' c1 us gs (row16 ws 3 (m16 3) (m16 3)) (row16 gs 3 (m16 3) (m16 3)) ca fa ch se ro le lc a0 a1 a2 a3 a4 a5 a6 cnt (row16_atom _ _ _ _) (row16_atom _ _ _ _) (ints_atom _) (ints_atom _) (by simp) (by simp) (by simp) (by simp) (by simp) (by simp) (by rfl)) (oE_fits (k := 0) rfl (by simp) (by decide) (by decide)) (by decide) (by decide) (by simp [cf]) (by simp) (by intro σ; simp [upV, cf]) (by intro σ; simp [upV])
theorem lawC4 (o c0 : Nat) (vs : List Value) (ws : List Int) (o' c1 : Nat) (us : List Value) (gs : List Int) (ca : Int) (fa : Nat) (ch se ro le lc : Int) (hvs : ∀ i b, ws[i]? = some b → vs[o + i]? = some (.int .i64 b)) (hw : ws.length = 4) (hus : ∀ i b, gs[i]? = some b → us[o' + i]? = some (.int .i64 b)) (hg : gs.length = 4) (hfa : fa < 18446744073709551616) (h : chk5 4 4 ca ch se ro le lc = true) (hyes : good17 ws gs) :
    ConOk Tryz.prog 3 ⟨fun σ => [.agg ⟨cf (.slice (some ⟨σ 0, o, none⟩) 4 c0) (.slice (some ⟨σ 1, o', none⟩) 4 c1) ca fa ch se ro le lc⟩], oE vs us, 2, fun _ => .bool true, fun _ => []⟩ := by
  obtain ⟨a0, a1, a2, a3, a4, a5, a6, cnt, hS⟩ := st17_shape hyes
  have hro : 0 ≤ ro ∧ ro ≤ 16777216 := by
    simp only [chk5, b5c, Bool.and_eq_true, decide_eq_true_eq] at h
    omega
  have h5 := con5_yes (o := 0) (o' := 0) (c0 := 2 * m16 4) (c1 := 2 * m16 4) (fa := fa) (row16_in (n := 4) hw) (row16_in (n := 4) hg) (by rw [hw, hg]; exact h) hyes
  have h7 := con7_yes (o := 0) (o' := 0) (c0 := 2 * 4 + 1) (c1 := 2 * 4 + 1) (vs := ints ws) (us := ints gs) (fa := fa) (ints_in ws) (ints_in gs) (by rw [hw, hg]; exact h) hyes
  have h17 := con17_yes (o := 0) (o' := 0) (c0 := 2 * (0 + 4) + 1) (c1 := 2 * (0 + 4) + 1) (vs := ints ws) (us := ints gs) (ints_in ws) (ints_in gs) (by rw [hw, hg]) (by omega) (by omega) hyes
  rw [hw] at hS
  rw [hw, hg] at h5 h7
  simp only [hw, hS] at h17
  have h16 : ∀ pr w0, SumOk Tryz.prog pr w0 E1.ng 16 (tabS [([0], viewS [0] (w16r o c0 4 vs (row16 ws 4 (m16 4) (m16 4)))), ([1], viewS [1] (w16r o' c1 4 us (row16 gs 4 (m16 4) (m16 4))))]) := fun pr w0 => tab2_ok (viewS_ok (w16_ok hvs hw (by omega)) [0]) (viewS_ok (w16_ok hus hg (by omega)) [1])
  have h23 : ∀ pr w0, SumOk Tryz.prog pr w0 E1.ng 23 (tabS [([0], viewS [0] (con23 o c0 4 vs ws)), ([1], viewS [1] (con23 o' c1 4 us gs))]) := fun pr w0 => tab2_ok (viewS_ok (con23_ok hvs hw (by omega) (by omega)) [0]) (viewS_ok (con23_ok hus hg (by omega) (by omega)) [1])
  have h24 : ∀ pr w0, SumOk Tryz.prog pr w0 E1.ng 24 (tabS [([5], viewS [5] (w24 4 (row16 ws 4 (m16 4) (m16 4)))), ([6], viewS [6] (w24 4 (row16 gs 4 (m16 4) (m16 4))))]) := fun pr w0 => tab2_ok (viewS_ok (w24_ok (by omega)) [5]) (viewS_ok (w24_ok (by omega)) [6])
  have h25 : ∀ pr w0, SumOk Tryz.prog pr w0 E1.ng 25 (tabS [([5, 0], viewS [5, 0] (w25r o c0 4 vs (row16 ws 4 (m16 4) (m16 4)))), ([6, 1], viewS [6, 1] (w25r o' c1 4 us (row16 gs 4 (m16 4) (m16 4))))]) := fun pr w0 => tab2_ok (viewS_ok (w25_ok hvs hw (by omega)) [5, 0]) (viewS_ok (w25_ok hus hg (by omega)) [6, 1])
  have h26 : ∀ pr w0, SumOk Tryz.prog pr w0 E1.ng 26 (fnS fun _ => some ([], f26 fa)) := fun pr w0 => fnS_ok (by intro args τ c hh; simp only [Option.some.injEq, Prod.mk.injEq] at hh; obtain ⟨_, rfl⟩ := hh; exact f26_ok hfa)
  have h18 : ∀ pr w0, SumOk Tryz.prog pr w0 E1.ng 18 (tabS [([5], viewS [5] (w18 0 (2 * m16 4) 4 (row16 ws 4 (m16 4) (m16 4)) ws)), ([6], viewS [6] (w18 0 (2 * m16 4) 4 (row16 gs 4 (m16 4) (m16 4)) gs))]) := fun pr w0 => tab2_ok (viewS_ok (w18_ok (row16_in (n := 4) hw) hw (by omega) (by omega)) [5]) (viewS_ok (w18_ok (row16_in (n := 4) hg) hg (by omega) (by omega)) [6])
  have h20 : ∀ pr w0, SumOk Tryz.prog pr w0 E1.ng 20 (fnS fun _ => some ([], w20 ro)) := fun pr w0 => fnS_ok (by intro args τ c hh; simp only [Option.some.injEq, Prod.mk.injEq] at hh; obtain ⟨_, rfl⟩ := hh; exact w20_ok hro.1 hro.2)
  have h17' : ConOk Tryz.prog 17 (yesX (2 * (0 + 4) + 1) (2 * (0 + 4) + 1) 4 ws gs a0 a1 a2 a3 a4 a5 a6 (Int.ofNat (cnt + 1))) := h17
  exact con_read0 hP1 (s := tC4 o c0 vs ws o' c1 us gs (row16 ws 4 (m16 4) (m16 4)) (row16 gs 4 (m16 4) (m16 4)) ca fa ch se ro le lc a0 a1 a2 a3 a4 a5 a6 cnt) (fun pr w0 => withS_ok (withS_ok (withS_ok (withS_ok (withS_ok (withS_ok (withS_ok (withS_ok (withS_ok (withS_ok (sm0_ok pr w0) (h16 pr w0)) (h23 pr w0)) (h24 pr w0)) (h25 pr w0)) (h26 pr w0)) (tab1_ok (viewS_ok h5 [5, 6]))) (h18 pr w0)) (tab1_ok (viewS_ok h17' [10, 12]))) (h20 pr w0)) (tab1_ok (viewS_ok h7 [24, 25])))
    (aC4_came o c0 vs ws o' c1 us gs (row16 ws 4 (m16 4) (m16 4)) (row16 gs 4 (m16 4) (m16 4)) ca fa ch se ro le lc a0 a1 a2 a3 a4 a5 a6 cnt (row16_atom _ _ _ _) (row16_atom _ _ _ _) (ints_atom _) (ints_atom _) (by simp) (by simp) (by simp) (by simp) (by simp) (by simp) (by rfl)) (oE_fits (k := 0) rfl (by simp) (by decide) (by decide)) (by decide) (by decide) (by simp [cf]) (by simp) (by intro σ; simp [upV, cf]) (by intro σ; simp [upV])
end Go.Abs
end

section
set_option linter.unusedVariables false
set_option linter.unusedSimpArgs false
set_option linter.unusedSectionVars false
/-
  ClusterChecks: the law over clusters of 5, 6, 7.
-/
namespace Go.Abs
open Go.Proofs
set_option maxRecDepth 100000
set_option maxHeartbeats 4000000
set_option linter.unusedVariables false
theorem lawC5 (o c0 : Nat) (vs : List Value) (ws : List Int) (o' c1 : Nat) (us : List Value) (gs : List Int) (ca : Int) (fa : Nat) (ch se ro le lc : Int) (hvs : ∀ i b, ws[i]? = some b → vs[o + i]? = some (.int .i64 b)) (hw : ws.length = 5) (hus : ∀ i b, gs[i]? = some b → us[o' + i]? = some (.int .i64 b)) (hg : gs.length = 5) (hfa : fa < 18446744073709551616) (h : chk5 5 5 ca ch se ro le lc = true) (hyes : good17 ws gs) :
    ConOk Tryz.prog 3 ⟨fun σ => [.agg ⟨cf (.slice (some ⟨σ 0, o, none⟩) 5 c0) (.slice (some ⟨σ 1, o', none⟩) 5 c1) ca fa ch se ro le lc⟩], oE vs us, 2, fun _ => .bool true, fun _ => []⟩ := by
  obtain ⟨a0, a1, a2, a3, a4, a5, a6, cnt, hS⟩ := st17_shape hyes
  have hro : 0 ≤ ro ∧ ro ≤ 16777216 := by
    simp only [chk5, b5c, Bool.and_eq_true, decide_eq_true_eq] at h
    omega
  have h5 := con5_yes (o := 0) (o' := 0) (c0 := 2 * m16 5) (c1 := 2 * m16 5) (fa := fa) (row16_in (n := 5) hw) (row16_in (n := 5) hg) (by rw [hw, hg]; exact h) hyes
  have h7 := con7_yes (o := 0) (o' := 0) (c0 := 2 * 5 + 1) (c1 := 2 * 5 + 1) (vs := ints ws) (us := ints gs) (fa := fa) (ints_in ws) (ints_in gs) (by rw [hw, hg]; exact h) hyes
  have h17 := con17_yes (o := 0) (o' := 0) (c0 := 2 * (0 + 5) + 1) (c1 := 2 * (0 + 5) + 1) (vs := ints ws) (us := ints gs) (ints_in ws) (ints_in gs) (by rw [hw, hg]) (by omega) (by omega) hyes
  rw [hw] at hS
  rw [hw, hg] at h5 h7
  simp only [hw, hS] at h17
  have h16 : ∀ pr w0, SumOk Tryz.prog pr w0 E1.ng 16 (tabS [([0], viewS [0] (w16r o c0 5 vs (row16 ws 5 (m16 5) (m16 5)))), ([1], viewS [1] (w16r o' c1 5 us (row16 gs 5 (m16 5) (m16 5))))]) := fun pr w0 => tab2_ok (viewS_ok (w16_ok hvs hw (by omega)) [0]) (viewS_ok (w16_ok hus hg (by omega)) [1])
  have h23 : ∀ pr w0, SumOk Tryz.prog pr w0 E1.ng 23 (tabS [([0], viewS [0] (con23 o c0 5 vs ws)), ([1], viewS [1] (con23 o' c1 5 us gs))]) := fun pr w0 => tab2_ok (viewS_ok (con23_ok hvs hw (by omega) (by omega)) [0]) (viewS_ok (con23_ok hus hg (by omega) (by omega)) [1])
  have h24 : ∀ pr w0, SumOk Tryz.prog pr w0 E1.ng 24 (tabS [([5], viewS [5] (w24 5 (row16 ws 5 (m16 5) (m16 5)))), ([6], viewS [6] (w24 5 (row16 gs 5 (m16 5) (m16 5))))]) := fun pr w0 => tab2_ok (viewS_ok (w24_ok (by omega)) [5]) (viewS_ok (w24_ok (by omega)) [6])
  have h25 : ∀ pr w0, SumOk Tryz.prog pr w0 E1.ng 25 (tabS [([5, 0], viewS [5, 0] (w25r o c0 5 vs (row16 ws 5 (m16 5) (m16 5)))), ([6, 1], viewS [6, 1] (w25r o' c1 5 us (row16 gs 5 (m16 5) (m16 5))))]) := fun pr w0 => tab2_ok (viewS_ok (w25_ok hvs hw (by omega)) [5, 0]) (viewS_ok (w25_ok hus hg (by omega)) [6, 1])
  have h26 : ∀ pr w0, SumOk Tryz.prog pr w0 E1.ng 26 (fnS fun _ => some ([], f26 fa)) := fun pr w0 => fnS_ok (by intro args τ c hh; simp only [Option.some.injEq, Prod.mk.injEq] at hh; obtain ⟨_, rfl⟩ := hh; exact f26_ok hfa)
  have h18 : ∀ pr w0, SumOk Tryz.prog pr w0 E1.ng 18 (tabS [([5], viewS [5] (w18 0 (2 * m16 5) 5 (row16 ws 5 (m16 5) (m16 5)) ws)), ([6], viewS [6] (w18 0 (2 * m16 5) 5 (row16 gs 5 (m16 5) (m16 5)) gs))]) := fun pr w0 => tab2_ok (viewS_ok (w18_ok (row16_in (n := 5) hw) hw (by omega) (by omega)) [5]) (viewS_ok (w18_ok (row16_in (n := 5) hg) hg (by omega) (by omega)) [6])
  have h20 : ∀ pr w0, SumOk Tryz.prog pr w0 E1.ng 20 (fnS fun _ => some ([], w20 ro)) := fun pr w0 => fnS_ok (by intro args τ c hh; simp only [Option.some.injEq, Prod.mk.injEq] at hh; obtain ⟨_, rfl⟩ := hh; exact w20_ok hro.1 hro.2)
  have h17' : ConOk Tryz.prog 17 (yesX (2 * (0 + 5) + 1) (2 * (0 + 5) + 1) 5 ws gs a0 a1 a2 a3 a4 a5 a6 (Int.ofNat (cnt + 1))) := h17
  exact con_read0 hP1 (s := tC5 o c0 vs ws o' c1 us gs (row16 ws 5 (m16 5) (m16 5)) (row16 gs 5 (m16 5) (m16 5)) ca fa ch se ro le lc a0 a1 a2 a3 a4 a5 a6 cnt) (fun pr w0 => withS_ok (withS_ok (withS_ok (withS_ok (withS_ok (withS_ok (withS_ok (withS_ok (withS_ok (withS_ok (sm0_ok pr w0) (h16 pr w0)) (h23 pr w0)) (h24 pr w0)) (h25 pr w0)) (h26 pr w0)) (tab1_ok (viewS_ok h5 [5, 6]))) (h18 pr w0)) (tab1_ok (viewS_ok h17' [10, 12]))) (h20 pr w0)) (tab1_ok (viewS_ok h7 [25, 26])))
    (aC5_came o c0 vs ws o' c1 us gs (row16 ws 5 (m16 5) (m16 5)) (row16 gs 5 (m16 5) (m16 5)) ca fa ch se ro le lc a0 a1 a2 a3 a4 a5 a6 cnt (row16_atom _ _ _ _) (row16_atom _ _ _ _) (ints_atom _) (ints_atom _) (by simp) (by simp) (by simp) (by simp) (by simp) (by simp) (by rfl)) (oE_fits (k := 0) rfl (by simp) (by decide) (by decide)) (by decide) (by decide) (by simp [cf]) (by simp) (by intro σ; simp [upV, cf]) (by intro σ; simp [upV])
theorem lawC6 (o c0 : Nat) (vs : List Value) (ws : List Int) (o' c1 : Nat) (us : List Value) (gs : List Int) (ca : Int) (fa : Nat) (ch se ro le lc : Int) (hvs : ∀ i b, ws[i]? = some b → vs[o + i]? = some (.int .i64 b)) (hw : ws.length = 6) (hus : ∀ i b, gs[i]? = some b → us[o' + i]? = some (.int .i64 b)) (hg : gs.length = 6) (hfa : fa < 18446744073709551616) (h : chk5 6 6 ca ch se ro le lc = true) (hyes : good17 ws gs) :
    ConOk Tryz.prog 3 ⟨fun σ => [.agg ⟨cf (.slice (some ⟨σ 0, o, none⟩) 6 c0) (.slice (some ⟨σ 1, o', none⟩) 6 c1) ca fa ch se ro le lc⟩], oE vs us, 2, fun _ => .bool true, fun _ => []⟩ := by
  obtain ⟨a0, a1, a2, a3, a4, a5, a6, cnt, hS⟩ := st17_shape hyes
  have hro : 0 ≤ ro ∧ ro ≤ 16777216 := by
    simp only [chk5, b5c, Bool.and_eq_true, decide_eq_true_eq] at h
    omega
  have h5 := con5_yes (o := 0) (o' := 0) (c0 := 2 * m16 6) (c1 := 2 * m16 6) (fa := fa) (row16_in (n := 6) hw) (row16_in (n := 6) hg) (by rw [hw, hg]; exact h) hyes
  have h7 := con7_yes (o := 0) (o' := 0) (c0 := 2 * 6 + 1) (c1 := 2 * 6 + 1) (vs := ints ws) (us := ints gs) (fa := fa) (ints_in ws) (ints_in gs) (by rw [hw, hg]; exact h) hyes
  have h17 := con17_yes (o := 0) (o' := 0) (c0 := 2 * (0 + 6) + 1) (c1 := 2 * (0 + 6) + 1) (vs := ints ws) (us := ints gs) (ints_in ws) (ints_in gs) (by rw [hw, hg]) (by omega) (by omega) hyes
  rw [hw] at hS
  rw [hw, hg] at h5 h7
  simp only [hw, hS] at h17
  have h16 : ∀ pr w0, SumOk Tryz.prog pr w0 E1.ng 16 (tabS [([0], viewS [0] (w16r o c0 6 vs (row16 ws 6 (m16 6) (m16 6)))), ([1], viewS [1] (w16r o' c1 6 us (row16 gs 6 (m16 6) (m16 6))))]) := fun pr w0 => tab2_ok (viewS_ok (w16_ok hvs hw (by omega)) [0]) (viewS_ok (w16_ok hus hg (by omega)) [1])
  have h23 : ∀ pr w0, SumOk Tryz.prog pr w0 E1.ng 23 (tabS [([0], viewS [0] (con23 o c0 6 vs ws)), ([1], viewS [1] (con23 o' c1 6 us gs))]) := fun pr w0 => tab2_ok (viewS_ok (con23_ok hvs hw (by omega) (by omega)) [0]) (viewS_ok (con23_ok hus hg (by omega) (by omega)) [1])
  have h24 : ∀ pr w0, SumOk Tryz.prog pr w0 E1.ng 24 (tabS [([5], viewS [5] (w24 6 (row16 ws 6 (m16 6) (m16 6)))), ([6], viewS [6] (w24 6 (row16 gs 6 (m16 6) (m16 6))))]) := fun pr w0 => tab2_ok (viewS_ok (w24_ok (by omega)) [5]) (viewS_ok (w24_ok (by omega)) [6])
  have h25 : ∀ pr w0, SumOk Tryz.prog pr w0 E1.ng 25 (tabS [([5, 0], viewS [5, 0] (w25r o c0 6 vs (row16 ws 6 (m16 6) (m16 6)))), ([6, 1], viewS [6, 1] (w25r o' c1 6 us (row16 gs 6 (m16 6) (m16 6))))]) := fun pr w0 => tab2_ok (viewS_ok (w25_ok hvs hw (by omega)) [5, 0]) (viewS_ok (w25_ok hus hg (by omega)) [6, 1])
  have h26 : ∀ pr w0, SumOk Tryz.prog pr w0 E1.ng 26 (fnS fun _ => some ([], f26 fa)) := fun pr w0 => fnS_ok (by intro args τ c hh; simp only [Option.some.injEq, Prod.mk.injEq] at hh; obtain ⟨_, rfl⟩ := hh; exact f26_ok hfa)
  have h18 : ∀ pr w0, SumOk Tryz.prog pr w0 E1.ng 18 (tabS [([5], viewS [5] (w18 0 (2 * m16 6) 6 (row16 ws 6 (m16 6) (m16 6)) ws)), ([6], viewS [6] (w18 0 (2 * m16 6) 6 (row16 gs 6 (m16 6) (m16 6)) gs))]) := fun pr w0 => tab2_ok (viewS_ok (w18_ok (row16_in (n := 6) hw) hw (by omega) (by omega)) [5]) (viewS_ok (w18_ok (row16_in (n := 6) hg) hg (by omega) (by omega)) [6])
  have h20 : ∀ pr w0, SumOk Tryz.prog pr w0 E1.ng 20 (fnS fun _ => some ([], w20 ro)) := fun pr w0 => fnS_ok (by intro args τ c hh; simp only [Option.some.injEq, Prod.mk.injEq] at hh; obtain ⟨_, rfl⟩ := hh; exact w20_ok hro.1 hro.2)
  have h17' : ConOk Tryz.prog 17 (yesX (2 * (0 + 6) + 1) (2 * (0 + 6) + 1) 6 ws gs a0 a1 a2 a3 a4 a5 a6 (Int.ofNat (cnt + 1))) := h17
  exact con_read0 hP1 (s := tC6 o c0 vs ws o' c1 us gs (row16 ws 6 (m16 6) (m16 6)) (row16 gs 6 (m16 6) (m16 6)) ca fa ch se ro le lc a0 a1 a2 a3 a4 a5 a6 cnt) (fun pr w0 => withS_ok (withS_ok (withS_ok (withS_ok (withS_ok (withS_ok (withS_ok (withS_ok (withS_ok (withS_ok (sm0_ok pr w0) (h16 pr w0)) (h23 pr w0)) (h24 pr w0)) (h25 pr w0)) (h26 pr w0)) (tab1_ok (viewS_ok h5 [5, 6]))) (h18 pr w0)) (tab1_ok (viewS_ok h17' [10, 12]))) (h20 pr w0)) (tab1_ok (viewS_ok h7 [26, 27])))
    (aC6_came o c0 vs ws o' c1 us gs (row16 ws 6 (m16 6) (m16 6)) (row16 gs 6 (m16 6) (m16 6)) ca fa ch se ro le lc a0 a1 a2 a3 a4 a5 a6 cnt (row16_atom _ _ _ _) (row16_atom _ _ _ _) (ints_atom _) (ints_atom _) (by simp) (by simp) (by simp) (by simp) (by simp) (by simp) (by rfl)) (oE_fits (k := 0) rfl (by simp) (by decide) (by decide)) (by decide) (by decide) (by simp [cf]) (by simp) (by intro σ; simp [upV, cf]) (by intro σ; simp [upV])
theorem lawC7 (o c0 : Nat) (vs : List Value) (ws : List Int) (o' c1 : Nat) (us : List Value) (gs : List Int) (ca : Int) (fa : Nat) (ch se ro le lc : Int) (hvs : ∀ i b, ws[i]? = some b → vs[o + i]? = some (.int .i64 b)) (hw : ws.length = 7) (hus : ∀ i b, gs[i]? = some b → us[o' + i]? = some (.int .i64 b)) (hg : gs.length = 7) (hfa : fa < 18446744073709551616) (h : chk5 7 7 ca ch se ro le lc = true) (hyes : good17 ws gs) :
    ConOk Tryz.prog 3 ⟨fun σ => [.agg ⟨cf (.slice (some ⟨σ 0, o, none⟩) 7 c0) (.slice (some ⟨σ 1, o', none⟩) 7 c1) ca fa ch se ro le lc⟩], oE vs us, 2, fun _ => .bool true, fun _ => []⟩ := by
  obtain ⟨a0, a1, a2, a3, a4, a5, a6, cnt, hS⟩ := st17_shape hyes
  have hro : 0 ≤ ro ∧ ro ≤ 16777216 := by
    simp only [chk5, b5c, Bool.and_eq_true, decide_eq_true_eq] at h
    omega
  have h5 := con5_yes (o := 0) (o' := 0) (c0 := 2 * m16 7) (c1 := 2 * m16 7) (fa := fa) (row16_in (n := 7) hw) (row16_in (n := 7) hg) (by rw [hw, hg]; exact h) hyes
  have h7 := con7_yes (o := 0) (o' := 0) (c0 := 2 * 7 + 1) (c1 := 2 * 7 + 1) (vs := ints ws) (us := ints gs) (fa := fa) (ints_in ws) (ints_in gs) (by rw [hw, hg]; exact h) hyes
  have h17 := con17_yes (o := 0) (o' := 0) (c0 := 2 * (0 + 7) + 1) (c1 := 2 * (0 + 7) + 1) (vs := ints ws) (us := ints gs) (ints_in ws) (ints_in gs) (by rw [hw, hg]) (by omega) (by omega) hyes
  rw [hw] at hS
  rw [hw, hg] at h5 h7
  simp only [hw, hS] at h17
  have h16 : ∀ pr w0, SumOk Tryz.prog pr w0 E1.ng 16 (tabS [([0], viewS [0] (w16r o c0 7 vs (row16 ws 7 (m16 7) (m16 7)))), ([1], viewS [1] (w16r o' c1 7 us (row16 gs 7 (m16 7) (m16 7))))]) := fun pr w0 => tab2_ok (viewS_ok (w16_ok hvs hw (by omega)) [0]) (viewS_ok (w16_ok hus hg (by omega)) [1])
  have h23 : ∀ pr w0, SumOk Tryz.prog pr w0 E1.ng 23 (tabS [([0], viewS [0] (con23 o c0 7 vs ws)), ([1], viewS [1] (con23 o' c1 7 us gs))]) := fun pr w0 => tab2_ok (viewS_ok (con23_ok hvs hw (by omega) (by omega)) [0]) (viewS_ok (con23_ok hus hg (by omega) (by omega)) [1])
  have h24 : ∀ pr w0, SumOk Tryz.prog pr w0 E1.ng 24 (tabS [([5], viewS [5] (w24 7 (row16 ws 7 (m16 7) (m16 7)))), ([6], viewS [6] (w24 7 (row16 gs 7 (m16 7) (m16 7))))]) := fun pr w0 => tab2_ok (viewS_ok (w24_ok (by omega)) [5]) (viewS_ok (w24_ok (by omega)) [6])
  have h25 : ∀ pr w0, SumOk Tryz.prog pr w0 E1.ng 25 (tabS [([5, 0], viewS [5, 0] (w25r o c0 7 vs (row16 ws 7 (m16 7) (m16 7)))), ([6, 1], viewS [6, 1] (w25r o' c1 7 us (row16 gs 7 (m16 7) (m16 7))))]) := fun pr w0 => tab2_ok (viewS_ok (w25_ok hvs hw (by omega)) [5, 0]) (viewS_ok (w25_ok hus hg (by omega)) [6, 1])
  have h26 : ∀ pr w0, SumOk Tryz.prog pr w0 E1.ng 26 (fnS fun _ => some ([], f26 fa)) := fun pr w0 => fnS_ok (by intro args τ c hh; simp only [Option.some.injEq, Prod.mk.injEq] at hh; obtain ⟨_, rfl⟩ := hh; exact f26_ok hfa)
  have h18 : ∀ pr w0, SumOk Tryz.prog pr w0 E1.ng 18 (tabS [([5], viewS [5] (w18 0 (2 * m16 7) 7 (row16 ws 7 (m16 7) (m16 7)) ws)), ([6], viewS [6] (w18 0 (2 * m16 7) 7 (row16 gs 7 (m16 7) (m16 7)) gs))]) := fun pr w0 => tab2_ok (viewS_ok (w18_ok (row16_in (n := 7) hw) hw (by omega) (by omega)) [5]) (viewS_ok (w18_ok (row16_in (n := 7) hg) hg (by omega) (by omega)) [6])
  have h20 : ∀ pr w0, SumOk Tryz.prog pr w0 E1.ng 20 (fnS fun _ => some ([], w20 ro)) := fun pr w0 => fnS_ok (by intro args τ c hh; simp only [Option.some.injEq, Prod.mk.injEq] at hh; obtain ⟨_, rfl⟩ := hh; exact w20_ok hro.1 hro.2)
  have h17' : ConOk Tryz.prog 17 (yesX (2 * (0 + 7) + 1) (2 * (0 + 7) + 1) 7 ws gs a0 a1 a2 a3 a4 a5 a6 (Int.ofNat (cnt + 1))) := h17
  exact con_read0 hP1 (s := tC7 o c0 vs ws o' c1 us gs (row16 ws 7 (m16 7) (m16 7)) (row16 gs 7 (m16 7) (m16 7)) ca fa ch se ro le lc a0 a1 a2 a3 a4 a5 a6 cnt) (fun pr w0 => withS_ok (withS_ok (withS_ok (withS_ok (withS_ok (withS_ok (withS_ok (withS_ok (withS_ok (withS_ok (sm0_ok pr w0) (h16 pr w0)) (h23 pr w0)) (h24 pr w0)) (h25 pr w0)) (h26 pr w0)) (tab1_ok (viewS_ok h5 [5, 6]))) (h18 pr w0)) (tab1_ok (viewS_ok h17' [10, 12]))) (h20 pr w0)) (tab1_ok (viewS_ok h7 [27, 28])))
    (aC7_came o c0 vs ws o' c1 us gs (row16 ws 7 (m16 7) (m16 7)) (row16 gs 7 (m16 7) (m16 7)) ca fa ch se ro le lc a0 a1 a2 a3 a4 a5 a6 cnt (row16_atom _ _ _ _) (row16_atom _ _ _ _) (ints_atom _) (ints_atom _) (by simp) (by simp) (by simp) (by simp) (by simp) (by simp) (by rfl)) (oE_fits (k := 0) rfl (by simp) (by decide) (by decide)) (by decide) (by decide) (by simp [cf]) (by simp) (by intro σ; simp [upV, cf]) (by intro σ; simp [upV])
end Go.Abs
end

section
set_option linter.unusedVariables false
set_option linter.unusedSimpArgs false
set_option linter.unusedSectionVars false
/-
  ClusterChecks: the law on a configuration that came in.
-/
namespace Go.Abs
open Go.Proofs
set_option maxRecDepth 100000
set_option maxHeartbeats 4000000
set_option linter.unusedVariables false
section rowfacts
variable {P : Program} {w : World} {t u : TypeId} {v : Value} {r : Go.Reach} {base n R : Nat} {d : Deep}
theorem okWide_row {fs : Array Field} (ht : P.underlying t = some (.struct fs)) (h : Value.okWide P w r base t v) : ∃ cs, v = .agg cs ∧ cs.size = P.cellsOf t ∧ Row.okWide P w r base t cs := by
  unfold Value.okWide at h; rw [ht] at h; exact h
theorem fit_intL {k : IntKind} {ds : List Deep} (ht : P.underlying t = some (.int k)) (hf : FitD P R n t ds) : ∃ i, ds = [.val (.int k i)] := by
  cases n with
  | zero => exact hf.elim
  | succ n =>
    unfold FitD at hf; rw [ht] at hf
    obtain ⟨i, hd, _⟩ := hf
    exact ⟨i, hd⟩
theorem fit_field {ds : List Deep} {fs : Array Field} (ht : P.underlying t = some (.struct fs)) (hf : FitD P R n t ds) : ∃ m, n = m + 1 ∧ ds.length = P.cellsOf t ∧ ∀ (i : Nat) (f : Field), fs[i]? = some f → FitD P R m f.type ((ds.drop f.offset).take (P.cellsOf f.type)) := by
  cases n with
  | zero => exact hf.elim
  | succ n =>
    unfold FitD at hf; rw [ht] at hf
    exact ⟨n, rfl, hf.1, hf.2⟩
theorem fit_part {ds : List Deep} {fs : Array Field} {m : Nat} (h : ∀ (i : Nat) (f : Field), fs[i]? = some f → FitD P R m f.type ((ds.drop f.offset).take (P.cellsOf f.type))) {i : Nat} {f : Field} (hf : fs[i]? = some f) {u : TypeId} (hu : f.type = u) {c : Nat} (hc : P.cellsOf u = c) :
    FitD P R m u ((ds.drop f.offset).take c) := by
  subst hu; subst hc
  exact h i f hf
theorem hold_tail {w : World} {ds : List Deep} {cs : List Value} (h : Hold w ds cs) (o c : Nat) : Hold w ((ds.drop o).take c) ((cs.drop o).take c) := by
  refine ⟨by simp [h.1], fun i d v hd hv => ?_⟩
  by_cases hi : i < c
  · rw [List.getElem?_take_of_lt hi, List.getElem?_drop] at hd hv
    exact h.2 _ d v hd hv
  · rw [List.getElem?_eq_none (by simp; omega)] at hd; cases hd
theorem hold_at {w : World} {ds : List Deep} {cs : List Value} (h : Hold w ds cs) {i : Nat} {d : Deep} {v : Value} (hd : ds[i]? = some d) (hv : cs[i]? = some v) : DeepOk (fun _ => True) w d v := h.2 i d v hd hv


end rowfacts
/-- A list of numbers that came in, by its kind. -/
inductive IsList (W : World) (v : Value) : Prop where
  | nil (h : v = .slice none 0 0)
  | void (b o : Nat) (sp : Option Nat) (c : Nat) (h : v = .slice (some ⟨b, o, sp⟩) 0 c)
  | row (b o n c : Nat) (vs : List Value) (ws : List Int) (h : v = .slice (some ⟨b, o, none⟩) (n + 1) c) (hl : ws.length = n + 1) (hv : ∀ (i : Nat) (x : Int), ws[i]? = some x → vs[0 + i]? = some (.int .i64 x))
      (hc : ∀ (i : Nat) (u : Value), vs[i]? = some u → b < W.heap.size ∧ W.cell? ⟨b, o + i, none⟩ = some u ∧ Pure u)
theorem list_open {R n : Nat} {W : World} {d : Deep} {v : Value} (u22 : Tryz.prog.underlying 22 = some (.slice 3)) (u3 : Tryz.prog.underlying 3 = some (.int .i64)) (hf : FitD Tryz.prog R n 22 [d]) (hd : DeepOk (fun _ => True) W d v) : IsList W v := by
  have hc3 : Tryz.prog.cellsOf 3 = 1 := by kernel_rfl
  cases n with
  | zero => exact hf.elim
  | succ n =>
    unfold FitD at hf
    rw [u22] at hf
    simp only at hf
    rcases hf with h | ⟨sp, h⟩ | ⟨es, len, cap, h, hlc, hcp, hcm, hR, hel, hes⟩
    · simp only [List.cons.injEq, and_true] at h; subst h
      rw [deepOk_val] at hd
      exact .nil hd.1
    · simp only [List.cons.injEq, and_true] at h; subst h
      rw [deepOk_void] at hd
      obtain ⟨b, o, rfl⟩ := hd
      exact .void b o sp 0 rfl
    · simp only [List.cons.injEq, and_true] at h; subst h
      rw [deepOk_row] at hd
      obtain ⟨b, o, rfl, hcell⟩ := hd
      rw [hc3] at hel hes
      have each : ∀ i, ∃ x : Int, ∀ (h : i < es.length), es[i] = .val (.int .i64 x) := by
        intro i
        by_cases hi : i < es.length
        · have := hes i (by omega)
          rw [Nat.mul_one] at this
          have h1 : (es.drop i).take 1 = [es[i]] := by
            rw [List.drop_eq_getElem_cons hi]; rfl
          rw [h1] at this
          obtain ⟨x, hx⟩ := fit_intL u3 this
          simp only [List.cons.injEq, and_true] at hx
          exact ⟨x, fun _ => hx⟩
        · exact ⟨0, fun h => absurd h hi⟩
      obtain ⟨f, hf'⟩ := Classical.axiomOfChoice each
      cases len with
      | zero => exact .void b o none cap rfl
      | succ k =>
        refine .row b o k cap ((List.range cap).map fun i => .int .i64 (f i)) ((List.range (k + 1)).map f) rfl (by simp) ?_ ?_
        · intro i x hx
          have hi : i < k + 1 := by
            have := (List.getElem?_eq_some_iff.1 hx).1
            simpa using this
          rw [List.getElem?_map, List.getElem?_range hi] at hx
          rw [Nat.zero_add, List.getElem?_map, List.getElem?_range (by omega)]
          simp only [Option.map_some, Option.some.injEq] at hx ⊢
          rw [hx]
        · intro i u hu
          have hi : i < cap := by
            have := (List.getElem?_eq_some_iff.1 hu).1
            simpa using this
          rw [List.getElem?_map, List.getElem?_range hi] at hu
          simp only [Option.map_some, Option.some.injEq] at hu
          subst hu
          have hie : i < es.length := by omega
          obtain ⟨h1, _, u', h2, h3⟩ := hcell i hie
          rw [hf' i hie, deepOk_val] at h3
          obtain ⟨rfl, h4⟩ := h3
          exact ⟨h1, h2, h4⟩
def ren (W : World) (l : Nat → Nat × Nat) : Ren := { loc := l, ext := fun _ => 0, fz := fun b => b < W.heap.size, wb := W }
def two (p q : Nat × Nat) : Nat → Nat × Nat
  | 0 => p
  | _ => q
section
variable {W : World} (ca : Int) (fa : Nat) (ch se ro le lc : Int) (hfa : fa < 18446744073709551616)
include hfa
theorem top_NN     :
    Calls Tryz.prog 3 #[.agg ⟨cf (.slice none 0 0) (.slice none 0 0) ca fa ch se ro le lc⟩] W fun e w' => e = .returned (.bool true) ∧ RowKit.Below W.heap.size W w' := by
  have fin : ConOk Tryz.prog 3 ⟨fun σ => [.agg ⟨cf (.slice none 0 0) (.slice none 0 0) ca fa ch se ro le lc⟩], [], 2, fun _ => .bool true, fun _ => []⟩ → Calls Tryz.prog 3 #[.agg ⟨cf (.slice none 0 0) (.slice none 0 0) ca fa ch se ro le lc⟩] W fun e w' => e = .returned (.bool true) ∧ RowKit.Below W.heap.size W w' := by
    intro hc
    have := con_below hc (fun ι => ⟨by simp [conc], by simp⟩) W (two (0, 0) (0, 0)) (by intro p hp; simp at hp)
    simpa [conc, cf, Ren.addr, Ren.cap, capOf, capOpen, two] using this
  apply fin
  cases hch : chk5 0 0 ca ch se ro le lc with
  | false => exact lawA_NN  ca fa ch se ro le lc hfa hch
  | true =>
    simp only [chk5, Bool.and_eq_true] at hch
    have := b5a_len hch.1
    omega
theorem top_NV  (b1 p1 c1 : Nat) (sp' : Option Nat)   :
    Calls Tryz.prog 3 #[.agg ⟨cf (.slice none 0 0) (.slice (some ⟨b1, p1, sp'⟩) 0 c1) ca fa ch se ro le lc⟩] W fun e w' => e = .returned (.bool true) ∧ RowKit.Below W.heap.size W w' := by
  have fin : ConOk Tryz.prog 3 ⟨fun σ => [.agg ⟨cf (.slice none 0 0) (.slice (some ⟨σ 1, 0, sp'⟩) 0 (2 * c1)) ca fa ch se ro le lc⟩], [], 2, fun _ => .bool true, fun _ => []⟩ → Calls Tryz.prog 3 #[.agg ⟨cf (.slice none 0 0) (.slice (some ⟨b1, p1, sp'⟩) 0 c1) ca fa ch se ro le lc⟩] W fun e w' => e = .returned (.bool true) ∧ RowKit.Below W.heap.size W w' := by
    intro hc
    have := con_below hc (fun ι => ⟨by simp [conc], by simp⟩) W (two (0, 0) (b1, p1)) (by intro p hp; simp at hp)
    simpa [conc, cf, Ren.addr, Ren.cap, capOf, capOpen, two] using this
  apply fin
  cases hch : chk5 0 0 ca ch se ro le lc with
  | false => exact lawA_NV 0 (2 * c1) sp' ca fa ch se ro le lc hfa hch
  | true =>
    simp only [chk5, Bool.and_eq_true] at hch
    have := b5a_len hch.1
    omega
theorem top_NR  (b1 p1 c1 m : Nat) (us : List Value) (gs : List Int)  (hg : gs.length = m + 1) (hus : ∀ (i : Nat) (x : Int), gs[i]? = some x → us[0 + i]? = some (.int .i64 x)) (hcg : ∀ (i : Nat) (u : Value), us[i]? = some u → b1 < W.heap.size ∧ W.cell? ⟨b1, p1 + i, none⟩ = some u ∧ Pure u) :
    Calls Tryz.prog 3 #[.agg ⟨cf (.slice none 0 0) (.slice (some ⟨b1, p1, none⟩) (m + 1) c1) ca fa ch se ro le lc⟩] W fun e w' => e = .returned (.bool true) ∧ RowKit.Below W.heap.size W w' := by
  have fin : ConOk Tryz.prog 3 ⟨fun σ => [.agg ⟨cf (.slice none 0 0) (.slice (some ⟨σ 1, 0, none⟩) (m + 1) (2 * c1)) ca fa ch se ro le lc⟩], [(1, .rov us)], 2, fun _ => .bool true, fun _ => []⟩ → Calls Tryz.prog 3 #[.agg ⟨cf (.slice none 0 0) (.slice (some ⟨b1, p1, none⟩) (m + 1) c1) ca fa ch se ro le lc⟩] W fun e w' => e = .returned (.bool true) ∧ RowKit.Below W.heap.size W w' := by
    intro hc
    have := con_below hc (fun ι => ⟨by simp [conc], by simp⟩) W (two (0, 0) (b1, p1)) (by intro p hp; simp only [List.mem_cons, List.not_mem_nil, or_false] at hp; subst hp; exact ⟨by simp, _, rfl, hcg⟩)
    simpa [conc, cf, Ren.addr, Ren.cap, capOf, capOpen, two] using this
  apply fin
  by_cases hs1 : m + 1 ≤ 1048576
  case neg => exact lawy_NR 0 (2 * c1) m us gs ca fa ch se ro le lc (by omega)
  cases hch : chk5 0 (m + 1) ca ch se ro le lc with
  | false => exact lawA_NR 0 (2 * c1) m us gs ca fa ch se ro le lc hus hg hs1 hfa hch
  | true =>
    simp only [chk5, Bool.and_eq_true] at hch
    have := b5a_len hch.1
    omega
theorem top_VN (b0 p0 c0 : Nat) (sp : Option Nat)    :
    Calls Tryz.prog 3 #[.agg ⟨cf (.slice (some ⟨b0, p0, sp⟩) 0 c0) (.slice none 0 0) ca fa ch se ro le lc⟩] W fun e w' => e = .returned (.bool true) ∧ RowKit.Below W.heap.size W w' := by
  have fin : ConOk Tryz.prog 3 ⟨fun σ => [.agg ⟨cf (.slice (some ⟨σ 0, 0, sp⟩) 0 (2 * c0)) (.slice none 0 0) ca fa ch se ro le lc⟩], [], 2, fun _ => .bool true, fun _ => []⟩ → Calls Tryz.prog 3 #[.agg ⟨cf (.slice (some ⟨b0, p0, sp⟩) 0 c0) (.slice none 0 0) ca fa ch se ro le lc⟩] W fun e w' => e = .returned (.bool true) ∧ RowKit.Below W.heap.size W w' := by
    intro hc
    have := con_below hc (fun ι => ⟨by simp [conc], by simp⟩) W (two (b0, p0) (0, 0)) (by intro p hp; simp at hp)
    simpa [conc, cf, Ren.addr, Ren.cap, capOf, capOpen, two] using this
  apply fin
  cases hch : chk5 0 0 ca ch se ro le lc with
  | false => exact lawA_VN 0 (2 * c0) sp ca fa ch se ro le lc hfa hch
  | true =>
    simp only [chk5, Bool.and_eq_true] at hch
    have := b5a_len hch.1
    omega
theorem top_VV (b0 p0 c0 : Nat) (sp : Option Nat) (b1 p1 c1 : Nat) (sp' : Option Nat)   :
    Calls Tryz.prog 3 #[.agg ⟨cf (.slice (some ⟨b0, p0, sp⟩) 0 c0) (.slice (some ⟨b1, p1, sp'⟩) 0 c1) ca fa ch se ro le lc⟩] W fun e w' => e = .returned (.bool true) ∧ RowKit.Below W.heap.size W w' := by
  have fin : ConOk Tryz.prog 3 ⟨fun σ => [.agg ⟨cf (.slice (some ⟨σ 0, 0, sp⟩) 0 (2 * c0)) (.slice (some ⟨σ 1, 0, sp'⟩) 0 (2 * c1)) ca fa ch se ro le lc⟩], [], 2, fun _ => .bool true, fun _ => []⟩ → Calls Tryz.prog 3 #[.agg ⟨cf (.slice (some ⟨b0, p0, sp⟩) 0 c0) (.slice (some ⟨b1, p1, sp'⟩) 0 c1) ca fa ch se ro le lc⟩] W fun e w' => e = .returned (.bool true) ∧ RowKit.Below W.heap.size W w' := by
    intro hc
    have := con_below hc (fun ι => ⟨by simp [conc], by simp⟩) W (two (b0, p0) (b1, p1)) (by intro p hp; simp at hp)
    simpa [conc, cf, Ren.addr, Ren.cap, capOf, capOpen, two] using this
  apply fin
  cases hch : chk5 0 0 ca ch se ro le lc with
  | false => exact lawA_VV 0 (2 * c0) sp 0 (2 * c1) sp' ca fa ch se ro le lc hfa hch
  | true =>
    simp only [chk5, Bool.and_eq_true] at hch
    have := b5a_len hch.1
    omega
theorem top_VR (b0 p0 c0 : Nat) (sp : Option Nat) (b1 p1 c1 m : Nat) (us : List Value) (gs : List Int)  (hg : gs.length = m + 1) (hus : ∀ (i : Nat) (x : Int), gs[i]? = some x → us[0 + i]? = some (.int .i64 x)) (hcg : ∀ (i : Nat) (u : Value), us[i]? = some u → b1 < W.heap.size ∧ W.cell? ⟨b1, p1 + i, none⟩ = some u ∧ Pure u) :
    Calls Tryz.prog 3 #[.agg ⟨cf (.slice (some ⟨b0, p0, sp⟩) 0 c0) (.slice (some ⟨b1, p1, none⟩) (m + 1) c1) ca fa ch se ro le lc⟩] W fun e w' => e = .returned (.bool true) ∧ RowKit.Below W.heap.size W w' := by
  have fin : ConOk Tryz.prog 3 ⟨fun σ => [.agg ⟨cf (.slice (some ⟨σ 0, 0, sp⟩) 0 (2 * c0)) (.slice (some ⟨σ 1, 0, none⟩) (m + 1) (2 * c1)) ca fa ch se ro le lc⟩], [(1, .rov us)], 2, fun _ => .bool true, fun _ => []⟩ → Calls Tryz.prog 3 #[.agg ⟨cf (.slice (some ⟨b0, p0, sp⟩) 0 c0) (.slice (some ⟨b1, p1, none⟩) (m + 1) c1) ca fa ch se ro le lc⟩] W fun e w' => e = .returned (.bool true) ∧ RowKit.Below W.heap.size W w' := by
    intro hc
    have := con_below hc (fun ι => ⟨by simp [conc], by simp⟩) W (two (b0, p0) (b1, p1)) (by intro p hp; simp only [List.mem_cons, List.not_mem_nil, or_false] at hp; subst hp; exact ⟨by simp, _, rfl, hcg⟩)
    simpa [conc, cf, Ren.addr, Ren.cap, capOf, capOpen, two] using this
  apply fin
  by_cases hs1 : m + 1 ≤ 1048576
  case neg => exact lawy_VR 0 (2 * c0) sp 0 (2 * c1) m us gs ca fa ch se ro le lc (by omega)
  cases hch : chk5 0 (m + 1) ca ch se ro le lc with
  | false => exact lawA_VR 0 (2 * c0) sp 0 (2 * c1) m us gs ca fa ch se ro le lc hus hg hs1 hfa hch
  | true =>
    simp only [chk5, Bool.and_eq_true] at hch
    have := b5a_len hch.1
    omega
theorem top_RN (b0 p0 c0 n : Nat) (vs : List Value) (ws : List Int)  (hw : ws.length = n + 1) (hvs : ∀ (i : Nat) (x : Int), ws[i]? = some x → vs[0 + i]? = some (.int .i64 x)) (hcw : ∀ (i : Nat) (u : Value), vs[i]? = some u → b0 < W.heap.size ∧ W.cell? ⟨b0, p0 + i, none⟩ = some u ∧ Pure u)  :
    Calls Tryz.prog 3 #[.agg ⟨cf (.slice (some ⟨b0, p0, none⟩) (n + 1) c0) (.slice none 0 0) ca fa ch se ro le lc⟩] W fun e w' => e = .returned (.bool true) ∧ RowKit.Below W.heap.size W w' := by
  have fin : ConOk Tryz.prog 3 ⟨fun σ => [.agg ⟨cf (.slice (some ⟨σ 0, 0, none⟩) (n + 1) (2 * c0)) (.slice none 0 0) ca fa ch se ro le lc⟩], [(0, .rov vs)], 2, fun _ => .bool true, fun _ => []⟩ → Calls Tryz.prog 3 #[.agg ⟨cf (.slice (some ⟨b0, p0, none⟩) (n + 1) c0) (.slice none 0 0) ca fa ch se ro le lc⟩] W fun e w' => e = .returned (.bool true) ∧ RowKit.Below W.heap.size W w' := by
    intro hc
    have := con_below hc (fun ι => ⟨by simp [conc], by simp⟩) W (two (b0, p0) (0, 0)) (by intro p hp; simp only [List.mem_cons, List.not_mem_nil, or_false] at hp; subst hp; exact ⟨by simp, _, rfl, hcw⟩)
    simpa [conc, cf, Ren.addr, Ren.cap, capOf, capOpen, two] using this
  apply fin
  by_cases hs0 : n + 1 ≤ 1048576
  case neg => exact lawx_RN 0 (2 * c0) n vs ws ca fa ch se ro le lc (by omega)
  cases hch : chk5 (n + 1) 0 ca ch se ro le lc with
  | false => exact lawA_RN 0 (2 * c0) n vs ws ca fa ch se ro le lc hvs hw hs0 hfa hch
  | true =>
    simp only [chk5, Bool.and_eq_true] at hch
    have := b5a_len hch.1
    omega
theorem top_RV (b0 p0 c0 n : Nat) (vs : List Value) (ws : List Int) (b1 p1 c1 : Nat) (sp' : Option Nat) (hw : ws.length = n + 1) (hvs : ∀ (i : Nat) (x : Int), ws[i]? = some x → vs[0 + i]? = some (.int .i64 x)) (hcw : ∀ (i : Nat) (u : Value), vs[i]? = some u → b0 < W.heap.size ∧ W.cell? ⟨b0, p0 + i, none⟩ = some u ∧ Pure u)  :
    Calls Tryz.prog 3 #[.agg ⟨cf (.slice (some ⟨b0, p0, none⟩) (n + 1) c0) (.slice (some ⟨b1, p1, sp'⟩) 0 c1) ca fa ch se ro le lc⟩] W fun e w' => e = .returned (.bool true) ∧ RowKit.Below W.heap.size W w' := by
  have fin : ConOk Tryz.prog 3 ⟨fun σ => [.agg ⟨cf (.slice (some ⟨σ 0, 0, none⟩) (n + 1) (2 * c0)) (.slice (some ⟨σ 1, 0, sp'⟩) 0 (2 * c1)) ca fa ch se ro le lc⟩], [(0, .rov vs)], 2, fun _ => .bool true, fun _ => []⟩ → Calls Tryz.prog 3 #[.agg ⟨cf (.slice (some ⟨b0, p0, none⟩) (n + 1) c0) (.slice (some ⟨b1, p1, sp'⟩) 0 c1) ca fa ch se ro le lc⟩] W fun e w' => e = .returned (.bool true) ∧ RowKit.Below W.heap.size W w' := by
    intro hc
    have := con_below hc (fun ι => ⟨by simp [conc], by simp⟩) W (two (b0, p0) (b1, p1)) (by intro p hp; simp only [List.mem_cons, List.not_mem_nil, or_false] at hp; subst hp; exact ⟨by simp, _, rfl, hcw⟩)
    simpa [conc, cf, Ren.addr, Ren.cap, capOf, capOpen, two] using this
  apply fin
  by_cases hs0 : n + 1 ≤ 1048576
  case neg => exact lawx_RV 0 (2 * c0) n vs ws 0 (2 * c1) sp' ca fa ch se ro le lc (by omega)
  cases hch : chk5 (n + 1) 0 ca ch se ro le lc with
  | false => exact lawA_RV 0 (2 * c0) n vs ws 0 (2 * c1) sp' ca fa ch se ro le lc hvs hw hs0 hfa hch
  | true =>
    simp only [chk5, Bool.and_eq_true] at hch
    have := b5a_len hch.1
    omega
theorem top_RR (b0 p0 c0 n : Nat) (vs : List Value) (ws : List Int) (b1 p1 c1 m : Nat) (us : List Value) (gs : List Int) (hw : ws.length = n + 1) (hvs : ∀ (i : Nat) (x : Int), ws[i]? = some x → vs[0 + i]? = some (.int .i64 x)) (hcw : ∀ (i : Nat) (u : Value), vs[i]? = some u → b0 < W.heap.size ∧ W.cell? ⟨b0, p0 + i, none⟩ = some u ∧ Pure u) (hg : gs.length = m + 1) (hus : ∀ (i : Nat) (x : Int), gs[i]? = some x → us[0 + i]? = some (.int .i64 x)) (hcg : ∀ (i : Nat) (u : Value), us[i]? = some u → b1 < W.heap.size ∧ W.cell? ⟨b1, p1 + i, none⟩ = some u ∧ Pure u) :
    Calls Tryz.prog 3 #[.agg ⟨cf (.slice (some ⟨b0, p0, none⟩) (n + 1) c0) (.slice (some ⟨b1, p1, none⟩) (m + 1) c1) ca fa ch se ro le lc⟩] W fun e w' => e = .returned (.bool true) ∧ RowKit.Below W.heap.size W w' := by
  have fin : ConOk Tryz.prog 3 ⟨fun σ => [.agg ⟨cf (.slice (some ⟨σ 0, 0, none⟩) (n + 1) (2 * c0)) (.slice (some ⟨σ 1, 0, none⟩) (m + 1) (2 * c1)) ca fa ch se ro le lc⟩], [(0, .rov vs), (1, .rov us)], 2, fun _ => .bool true, fun _ => []⟩ → Calls Tryz.prog 3 #[.agg ⟨cf (.slice (some ⟨b0, p0, none⟩) (n + 1) c0) (.slice (some ⟨b1, p1, none⟩) (m + 1) c1) ca fa ch se ro le lc⟩] W fun e w' => e = .returned (.bool true) ∧ RowKit.Below W.heap.size W w' := by
    intro hc
    have := con_below hc (fun ι => ⟨by simp [conc], by simp⟩) W (two (b0, p0) (b1, p1)) (by intro p hp; simp only [List.mem_cons, List.not_mem_nil, or_false] at hp; rcases hp with rfl | rfl; exact ⟨by simp, _, rfl, hcw⟩; exact ⟨by simp, _, rfl, hcg⟩)
    simpa [conc, cf, Ren.addr, Ren.cap, capOf, capOpen, two] using this
  apply fin
  by_cases hs0 : n + 1 ≤ 1048576
  case neg => exact lawx_RR 0 (2 * c0) n vs ws 0 (2 * c1) m us gs ca fa ch se ro le lc (by omega)
  by_cases hs1 : m + 1 ≤ 1048576
  case neg => exact lawy_RR 0 (2 * c0) n vs ws 0 (2 * c1) m us gs ca fa ch se ro le lc (by omega) hs0
  cases hch : chk5 (n + 1) (m + 1) ca ch se ro le lc with
  | false => exact lawA_RR 0 (2 * c0) n vs ws 0 (2 * c1) m us gs ca fa ch se ro le lc hvs hw hus hg hs0 hs1 hfa hch
  | true =>
    by_cases hgood : good17 ws gs
    case neg => exact lawB 0 (2 * c0) n vs ws 0 (2 * c1) m us gs ca fa ch se ro le lc hvs hw hus hg hs0 hs1 hfa hch hgood
    have h1 := hch
    simp only [chk5, Bool.and_eq_true] at h1
    obtain ⟨hnm, _, hn7⟩ := b5a_len h1.1
    have hm : m = n := by omega
    subst hm
    have h7 : m = 0 ∨ m = 1 ∨ m = 2 ∨ m = 3 ∨ m = 4 ∨ m = 5 ∨ m = 6 := by omega
    rcases h7 with rfl | rfl | rfl | rfl | rfl | rfl | rfl
    · exact lawC1 0 (2 * c0) vs ws 0 (2 * c1) us gs ca fa ch se ro le lc hvs hw hus hg hfa hch hgood
    · exact lawC2 0 (2 * c0) vs ws 0 (2 * c1) us gs ca fa ch se ro le lc hvs hw hus hg hfa hch hgood
    · exact lawC3 0 (2 * c0) vs ws 0 (2 * c1) us gs ca fa ch se ro le lc hvs hw hus hg hfa hch hgood
    · exact lawC4 0 (2 * c0) vs ws 0 (2 * c1) us gs ca fa ch se ro le lc hvs hw hus hg hfa hch hgood
    · exact lawC5 0 (2 * c0) vs ws 0 (2 * c1) us gs ca fa ch se ro le lc hvs hw hus hg hfa hch hgood
    · exact lawC6 0 (2 * c0) vs ws 0 (2 * c1) us gs ca fa ch se ro le lc hvs hw hus hg hfa hch hgood
    · exact lawC7 0 (2 * c0) vs ws 0 (2 * c1) us gs ca fa ch se ro le lc hvs hw hus hg hfa hch hgood
theorem top_all {v0 v1 : Value} (h0 : IsList W v0) (h1 : IsList W v1) :
    Calls Tryz.prog 3 #[.agg ⟨cf v0 v1 ca fa ch se ro le lc⟩] W fun e w' => e = .returned (.bool true) ∧ RowKit.Below W.heap.size W w' := by
  cases h0 with
  | nil h0 =>
    subst h0
    cases h1 with
    | nil h1 => subst h1; exact top_NN ca fa ch se ro le lc hfa
    | void b o sp c h1 => subst h1; exact top_NV ca fa ch se ro le lc hfa b o c sp
    | row b o n c vs ws h1 hl hv hc => subst h1; exact top_NR ca fa ch se ro le lc hfa b o c n vs ws hl hv hc
  | void b0 o0 sp0 c0 h0 =>
    subst h0
    cases h1 with
    | nil h1 => subst h1; exact top_VN ca fa ch se ro le lc hfa b0 o0 c0 sp0
    | void b o sp c h1 => subst h1; exact top_VV ca fa ch se ro le lc hfa b0 o0 c0 sp0 b o c sp
    | row b o n c vs ws h1 hl hv hc => subst h1; exact top_VR ca fa ch se ro le lc hfa b0 o0 c0 sp0 b o c n vs ws hl hv hc
  | row b0 o0 n0 c0 vs0 ws0 h0 hl0 hv0 hc0 =>
    subst h0
    cases h1 with
    | nil h1 => subst h1; exact top_RN ca fa ch se ro le lc hfa b0 o0 c0 n0 vs0 ws0 hl0 hv0 hc0
    | void b o sp c h1 => subst h1; exact top_RV ca fa ch se ro le lc hfa b0 o0 c0 n0 vs0 ws0 b o c sp hl0 hv0 hc0
    | row b o n c vs ws h1 hl hv hc => subst h1; exact top_RR ca fa ch se ro le lc hfa b0 o0 c0 n0 vs0 ws0 b o c n vs ws hl0 hv0 hc0 hl hv hc
end
end Go.Abs
end
