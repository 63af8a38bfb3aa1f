/-
  'lagoonlaw07.ZtreeNil' returns true whatever the transaction, the request and the number, and what is handed in reads as it did. Its listed variables are as the program's text lays them.
-/
import Derived.Test.YtffmfjkfjpblaaaGreatDoorZnGlob
namespace Go.Proofs.YtffmfjkfjpblaaaGreatDoor
open Go.ChangeShapes Go.WideShapes Go.ChangeAt Go.RowKit Go.Abs
set_option linter.unusedVariables false

theorem own : ownKnob Tryz.prog.godebug = none := by kernel_rfl
theorem laidOut : laidOutB Tryz.prog = true := by kernel_rfl
theorem okT : okTypes Tryz.prog [35, 24, 22, 27, 25, 2, 33, 9, 28, 5, 29, 81, 79, 21, 4, 30, 31] = true := by kernel_rfl
theorem cell_intE {P : Program} {w : World} {r : Reach} {base : Nat} {u : TypeId} {v : Value} {k : IntKind} (hu : P.underlying u = some (.int k)) (h : Cell.okWide P w r base u v) : ∃ n, v = .int k n :=
  okWide_int hu (show Value.okWide P w r base u v by unfold Value.okWide; rw [hu]; exact h)
theorem list16 {α : Type} : ∀ (l : List α), l.length = 16 → ∃ v0 v1 v2 v3 v4 v5 v6 v7 v8 v9 v10 v11 v12 v13 v14 v15, l = [v0, v1, v2, v3, v4, v5, v6, v7, v8, v9, v10, v11, v12, v13, v14, v15]
  | [v0, v1, v2, v3, v4, v5, v6, v7, v8, v9, v10, v11, v12, v13, v14, v15], _ => ⟨v0, v1, v2, v3, v4, v5, v6, v7, v8, v9, v10, v11, v12, v13, v14, v15, rfl⟩
theorem types35 : Tryz.prog.cellTypes Tryz.prog.depth 35 = some [22, 22, 25, 22, 2, 25, 9, 28, 29, 21, 4, 4, 2, 21, 30, 31] := by kernel_rfl
set_option maxRecDepth 100000 in
theorem txn_open {H : Type} {enc : TypeId × Value → H} {W : World} {v : Value} {d : DataW H} {p : List MemPlace} (hw : Value.okWide Tryz.prog W .any 0 35 v) (ht : DataW.Trod enc Tryz.prog W 0 (fun _ => true) true 35 v d p) (hR : ∀ k ∈ d.weights Tryz.prog 35, k ≤ reachBytes) :
    ∃ v0 v1 v2 v3 v4 v5 v6 v7 v8 v9 v10 v11 v12 v13 v14 v15 b1 b2 x n, v = .agg #[v0, v1, v2, v3, v4, v5, v6, v7, v8, v9, v10, v11, v12, v13, v14, v15] ∧ okOpq v0 = true ∧ okOpq v1 = true ∧ okOpq v2 = true ∧ okOpq v3 = true ∧ okOpq v4 = true ∧ okOpq v5 = true ∧ okOpq v6 = true ∧ okOpq v7 = true ∧ okOpq v8 = true ∧ okOpq v9 = true ∧ v10 = .bool b1 ∧ v11 = .bool b2 ∧ okOpq v12 = true ∧ okOpq v13 = true ∧ okOpq v14 = true ∧ okOpq v15 = true ∧ PZtreeNil.k33.K W x [v5, v6, v7, v8, v9, v10, v11, v12, v13, v14, v15] ∧ PZtreeNil.Small reachBytes n x ∧ (∃ t, v0 = .int .u32 t) ∧ (∃ t, v1 = .int .u32 t) ∧ (∃ t, v2 = .int .i8 t) ∧ (∃ t, v3 = .int .u32 t) ∧ (∃ t, v4 = .int .i64 t) := by
  obtain ⟨cs, rfl, hsz, hrow⟩ := okWide_row Tryz.underlying35 hw
  rw [show Tryz.prog.cellsOf 35 = 16 by kernel_rfl] at hsz
  obtain ⟨l⟩ := cs
  obtain ⟨v0, v1, v2, v3, v4, v5, v6, v7, v8, v9, v10, v11, v12, v13, v14, v15, rfl⟩ := list16 l (by simpa using hsz)
  obtain ⟨fuel, hf⟩ := ht
  obtain ⟨ds, hh, hfit⟩ := trod_fit okT (R := reachBytes) fuel 35 _ _ (by decide) hf hR
  obtain ⟨m, rfl, hl, hfs⟩ := PZtreeNil.fit_field Tryz.underlying35 hfit
  have h2 := PZtreeNil.fit_part hfs (i := 2) rfl (u := 33) rfl PZtreeNil.cells33
  have k2 := PZtreeNil.hold_tail hh 5 11
  obtain ⟨x, hx, hsm⟩ := PZtreeNil.fit33 h2 k2
  obtain ⟨t0, w0⟩ := cell_intE Tryz.underlying22 (row_cell hrow types35 (i := 0) rfl (u := 22) rfl)
  obtain ⟨t1, w1⟩ := cell_intE Tryz.underlying22 (row_cell hrow types35 (i := 1) rfl (u := 22) rfl)
  obtain ⟨t2, w2⟩ := cell_intE Tryz.underlying25 (row_cell hrow types35 (i := 2) rfl (u := 25) rfl)
  obtain ⟨t3, w3⟩ := cell_intE Tryz.underlying22 (row_cell hrow types35 (i := 3) rfl (u := 22) rfl)
  obtain ⟨t4, w4⟩ := cell_intE Tryz.underlying2 (row_cell hrow types35 (i := 4) rfl (u := 2) rfl)
  obtain ⟨b1, e10⟩ := cell_bool Tryz.underlying4 (row_cell hrow types35 (i := 10) rfl (u := 4) rfl)
  obtain ⟨b2, e11⟩ := cell_bool Tryz.underlying4 (row_cell hrow types35 (i := 11) rfl (u := 4) rfl)
  refine ⟨v0, v1, v2, v3, v4, v5, v6, v7, v8, v9, v10, v11, v12, v13, v14, v15, b1, b2, x, _, rfl, cell_int Tryz.underlying22 (row_cell hrow types35 (i := 0) rfl (u := 22) rfl), cell_int Tryz.underlying22 (row_cell hrow types35 (i := 1) rfl (u := 22) rfl), cell_int Tryz.underlying25 (row_cell hrow types35 (i := 2) rfl (u := 25) rfl), cell_int Tryz.underlying22 (row_cell hrow types35 (i := 3) rfl (u := 22) rfl), cell_int Tryz.underlying2 (row_cell hrow types35 (i := 4) rfl (u := 2) rfl), cell_int Tryz.underlying25 (row_cell hrow types35 (i := 5) rfl (u := 25) rfl), cell_string Tryz.underlying9 (row_cell hrow types35 (i := 6) rfl (u := 9) rfl), cell_slice Tryz.underlying28 (row_cell hrow types35 (i := 7) rfl (u := 28) rfl), cell_slice Tryz.underlying29 (row_cell hrow types35 (i := 8) rfl (u := 29) rfl), cell_int Tryz.underlying21 (row_cell hrow types35 (i := 9) rfl (u := 21) rfl), e10, e11, cell_int Tryz.underlying2 (row_cell hrow types35 (i := 12) rfl (u := 2) rfl), cell_int Tryz.underlying21 (row_cell hrow types35 (i := 13) rfl (u := 21) rfl), cell_slice Tryz.underlying30 (row_cell hrow types35 (i := 14) rfl (u := 30) rfl), cell_slice Tryz.underlying31 (row_cell hrow types35 (i := 15) rfl (u := 31) rfl), hx, hsm, ⟨t0, w0⟩, ⟨t1, w1⟩, ⟨t2, w2⟩, ⟨t3, w3⟩, ⟨t4, w4⟩⟩
theorem list11 {α : Type} : ∀ (l : List α), l.length = 11 → ∃ v0 v1 v2 v3 v4 v5 v6 v7 v8 v9 v10, l = [v0, v1, v2, v3, v4, v5, v6, v7, v8, v9, v10]
  | [v0, v1, v2, v3, v4, v5, v6, v7, v8, v9, v10], _ => ⟨v0, v1, v2, v3, v4, v5, v6, v7, v8, v9, v10, rfl⟩
theorem types33 : Tryz.prog.cellTypes Tryz.prog.depth 33 = some [25, 9, 28, 29, 21, 4, 4, 2, 21, 30, 31] := by kernel_rfl
set_option maxRecDepth 100000 in
theorem req_open {H : Type} {enc : TypeId × Value → H} {W : World} {v : Value} {d : DataW H} {p : List MemPlace} (hw : Value.okWide Tryz.prog W .any 0 33 v) (ht : DataW.Trod enc Tryz.prog W 0 (fun _ => true) true 33 v d p) (hR : ∀ k ∈ d.weights Tryz.prog 33, k ≤ reachBytes) :
    ∃ v0 v1 v2 v3 v4 v5 v6 v7 v8 v9 v10 b1 b2 x n, v = .agg #[v0, v1, v2, v3, v4, v5, v6, v7, v8, v9, v10] ∧ okOpq v0 = true ∧ okOpq v1 = true ∧ okOpq v2 = true ∧ okOpq v3 = true ∧ okOpq v4 = true ∧ v5 = .bool b1 ∧ v6 = .bool b2 ∧ okOpq v7 = true ∧ okOpq v8 = true ∧ okOpq v9 = true ∧ okOpq v10 = true ∧ PZtreeNil.k33.K W x [v0, v1, v2, v3, v4, v5, v6, v7, v8, v9, v10] ∧ PZtreeNil.Small reachBytes n x := by
  obtain ⟨cs, rfl, hsz, hrow⟩ := okWide_row Tryz.underlying33 hw
  rw [show Tryz.prog.cellsOf 33 = 11 by kernel_rfl] at hsz
  obtain ⟨l⟩ := cs
  obtain ⟨v0, v1, v2, v3, v4, v5, v6, v7, v8, v9, v10, rfl⟩ := list11 l (by simpa using hsz)
  obtain ⟨fuel, hf⟩ := ht
  obtain ⟨ds, hh, hfit⟩ := trod_fit okT (R := reachBytes) fuel 33 _ _ (by decide) hf hR
  obtain ⟨x, hx, hsm⟩ := PZtreeNil.fit33 hfit hh
  obtain ⟨b1, e5⟩ := cell_bool Tryz.underlying4 (row_cell hrow types33 (i := 5) rfl (u := 4) rfl)
  obtain ⟨b2, e6⟩ := cell_bool Tryz.underlying4 (row_cell hrow types33 (i := 6) rfl (u := 4) rfl)
  refine ⟨v0, v1, v2, v3, v4, v5, v6, v7, v8, v9, v10, b1, b2, x, _, rfl, cell_int Tryz.underlying25 (row_cell hrow types33 (i := 0) rfl (u := 25) rfl), cell_string Tryz.underlying9 (row_cell hrow types33 (i := 1) rfl (u := 9) rfl), cell_slice Tryz.underlying28 (row_cell hrow types33 (i := 2) rfl (u := 28) rfl), cell_slice Tryz.underlying29 (row_cell hrow types33 (i := 3) rfl (u := 29) rfl), cell_int Tryz.underlying21 (row_cell hrow types33 (i := 4) rfl (u := 21) rfl), e5, e6, cell_int Tryz.underlying2 (row_cell hrow types33 (i := 7) rfl (u := 2) rfl), cell_int Tryz.underlying21 (row_cell hrow types33 (i := 8) rfl (u := 21) rfl), cell_slice Tryz.underlying30 (row_cell hrow types33 (i := 9) rfl (u := 30) rfl), cell_slice Tryz.underlying31 (row_cell hrow types33 (i := 10) rfl (u := 31) rfl), hx, hsm⟩

def ztx : Value := .agg #[.int .u32 0, .int .u32 0, .int .i8 0, .int .u32 0, .int .i64 0, .int .i8 0, .string ⟨#[]⟩, .slice none 0 0, .slice none 0 0, .int .i32 0, .bool false, .bool false, .int .i64 0, .int .i32 0, .slice none 0 0, .slice none 0 0]
def zrq : Value := .agg #[.int .i8 0, .string ⟨#[]⟩, .slice none 0 0, .slice none 0 0, .int .i32 0, .bool false, .bool false, .int .i64 0, .int .i32 0, .slice none 0 0, .slice none 0 0]

set_option maxRecDepth 100000 in
theorem lifted (os : Os) (started : os.Started) (H : Type) (enc : TypeId × Value → H) :
    ReturnsInHanded {} Tryz.checked os 3 .any (fun w args => (Rows.ztreeNilSpec.pre enc Tryz.prog Tryz.f3 [] false w args ∧ laidMetH Tryz.prog Rows.ztreeNilRow.laid w) ∧ sizedMet enc Tryz.prog Tryz.f3 (OpenSpec.ofChange Rows.ztreeNilSpec) false w args)
      (Rows.ztreeNilSpec.post enc Tryz.prog Tryz.f3 false true false false) := by
  refine returnsInHanded_of_change_and (C := Tryz.checked) (X := fun w _ => laidMetH Tryz.prog Rows.ztreeNilRow.laid w) (fun _ _ _ hh h => h.of_heap hh) own started (by kernel_rfl) Tryz.func3
    (ChangeSpec.witness_shaped (enc := enc) (C := Tryz.checked) (os := os) (X := fun w _ => laidMetH Tryz.prog Rows.ztreeNilRow.laid w) false (World.laidAll Tryz.prog os Rows.ztreeNilRow.laid) #[ztx, zrq, .int .i64 0] 12 (World.laidAll_os _ _ _)
      (World.shaped_of_ZipB (by kernel_rfl) (by kernel_rfl)) (by kernel_rfl) (by kernel_rfl) (by kernel_rfl)
      (by rw [MakeChecks.laidMetH_plain _ _ _ (by kernel_rfl)]; exact laidMet_laidAll _ (by kernel_rfl) (by kernel_rfl))) ?_
  intro W base args ds gs before hval0 hW _ hwt hL _
  have hval : ∀ (j : Nat) t v, Tryz.f3.params[j]? = some t → args[j]? = some v → Value.okWide Tryz.prog W .any base t v := hval0
  have hW' := hW
  obtain ⟨p, q, hA0, hV, rfl, hfz, hnd⟩ := hW
  have hA : DataW.TrodAll enc Tryz.prog W 0 (fun _ => true) true Tryz.f3.params.toList args.toList ds p := hA0
  have hwt2 : (DataW.weightsEach Tryz.prog (Tryz.f3.params.toList ++ Rows.ztreeNilSpec.plain.varTypes Tryz.prog) (ds ++ gs)).all (· ≤ reachBytes) = true := hwt
  rw [Tryz.params3] at hA hval hwt2
  obtain ⟨v0, v1, v2, d0, d1, d2, p0, p1, p2, rfl, rfl, rfl, h0, h1, h2⟩ := trodAll_three hA
  obtain ⟨rfl, rfl⟩ := trodVars_none hV
  have all := List.all_eq_true.1 hwt2
  have hR0 : ∀ k ∈ d0.weights Tryz.prog 35, k ≤ reachBytes := fun k hk => of_decide_eq_true (all k (mem_each (i := 0) rfl rfl hk))
  have hR1 : ∀ k ∈ d1.weights Tryz.prog 33, k ≤ reachBytes := fun k hk => of_decide_eq_true (all k (mem_each (i := 1) rfl rfl hk))
  have k0 := h0
  have k1 := h1
  have k2 := h2
  have lt0 : ∀ x ∈ p0, x.block < W.heap.size := by obtain ⟨m, hm⟩ := k0; exact DataW.trod_lt m _ _ _ hm
  have lt1 : ∀ x ∈ p1, x.block < W.heap.size := by obtain ⟨m, hm⟩ := k1; exact DataW.trod_lt m _ _ _ hm
  have lt2 : ∀ x ∈ p2, x.block < W.heap.size := by obtain ⟨m, hm⟩ := k2; exact DataW.trod_lt m _ _ _ hm
  have hp0 : Value.okWide Tryz.prog W .any 0 35 v0 := Value.okWide_any_base (hval 0 35 v0 rfl rfl)
  have hp1 : Value.okWide Tryz.prog W .any 0 33 v1 := Value.okWide_any_base (hval 1 33 v1 rfl rfl)
  have hp2 : Value.okWide Tryz.prog W .any 0 2 v2 := Value.okWide_any_base (hval 2 2 v2 rfl rfl)
  have hwalk : Calls Tryz.prog 3 #[v0, v1, v2] W fun e W' => e = .returned (.bool true) ∧ Below W.heap.size W W' := by
    obtain ⟨x0, x1, x2, x3, x4, x5, x6, x7, x8, x9, x10, x11, x12, x13, x14, x15, b1, b2, x, n, rfl, g0, g1, g2, g3, g4, g5, g6, g7, g8, g9, rfl, rfl, g12, g13, g14, g15, hx, hsx, ⟨t0, e0⟩, ⟨t1, e1⟩, ⟨t2, e2⟩, ⟨t3, e3⟩, ⟨t4, e4⟩⟩ := txn_open hp0 h0 hR0
    obtain ⟨y0, y1, y2, y3, y4, y5, y6, y7, y8, y9, y10, b3, b4, y, m, rfl, f0, f1, f2, f3, f4, rfl, rfl, f7, f8, f9, f10, hy, hsy⟩ := req_open hp1 h1 hR1
    obtain ⟨z, rfl⟩ := okWide_int Tryz.underlying2 hp2
    exact walk (R := reachBytes) (by decide) (glob_ok hL) g0 g1 g2 g3 g4 g5 g6 g7 g8 g9 g12 g13 g14 g15 f0 f1 f2 f3 f4 f7 f8 f9 f10 rfl e0 e1 e2 e3 e4 hx hsx hy hsy
  refine hwalk.mono fun e W' ⟨he, bel⟩ => ?_
  subst he
  exact ⟨_, rfl, _, _, _, [], _, [], hW', trodAll_mk1 (shut_bool Tryz.underlying4 _), (trodAll_cons_mk (Below.trod laidOut (by kernel_rfl) (of_decide_eq_true (by kernel_rfl)) k0 bel lt0) (trodAll_cons_mk (Below.trod laidOut (by kernel_rfl) (of_decide_eq_true (by kernel_rfl)) k1 bel lt1) (trodAll_cons_mk (Below.trod laidOut (by kernel_rfl) (of_decide_eq_true (by kernel_rfl)) k2 bel lt2) trodAll_mk0))), rfl, bel.frame _, fun h => by cases h⟩

theorem over : Rows.ztreeNilRow.holds Tryz.pinned (OpenSpec.ofChange Rows.ztreeNilSpec) :=
  OpenClaim.holds_of_wide 3 Tryz.f3 rfl rfl rfl rfl rfl rfl rfl ⟨rfl, rfl, rfl, rfl, rfl⟩ rfl rfl rfl rfl rfl (by kernel_rfl) Tryz.func3 (by kernel_rfl)
    (of_decide_eq_true (by kernel_rfl)) (by unfold Func.isWrapper; first | (rw [if_pos (by decide +kernel)]; kernel_rfl) | (rw [if_neg (by decide +kernel)]; exact ⟨rfl, rfl⟩))
    (fun os started H enc _ => lifted os started H enc)
end Go.Proofs.YtffmfjkfjpblaaaGreatDoor
