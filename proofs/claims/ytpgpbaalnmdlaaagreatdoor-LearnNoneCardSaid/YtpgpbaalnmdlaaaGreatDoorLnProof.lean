/-
  'lagoonlaw17.LearnNone' returns true whatever the packet, and what is handed in reads as it did. Its listed variables are as the program's text lays them.
-/
import Derived.Test.YtpgpbaalnmdlaaaGreatDoorLnGlob
namespace Go.Proofs.YtpgpbaalnmdlaaaGreatDoor
open Go.ChangeShapes Go.WideShapes Go.ChangeAt Go.RowKit Go.Abs
set_option linter.unusedVariables false

theorem own : ownKnob Tryz.prog.godebug = none := by kernel_rfl
theorem laidOut : laidOutB Tryz.prog = true := by kernel_rfl
theorem list32 {α : Type} : ∀ (l : List α), l.length = 32 → ∃ v0 v1 v2 v3 v4 v5 v6 v7 v8 v9 v10 v11 v12 v13 v14 v15 v16 v17 v18 v19 v20 v21 v22 v23 v24 v25 v26 v27 v28 v29 v30 v31, l = [v0, v1, v2, v3, v4, v5, v6, v7, v8, v9, v10, v11, v12, v13, v14, v15, v16, v17, v18, v19, v20, v21, v22, v23, v24, v25, v26, v27, v28, v29, v30, v31]
  | [v0, v1, v2, v3, v4, v5, v6, v7, v8, v9, v10, v11, v12, v13, v14, v15, v16, v17, v18, v19, v20, v21, v22, v23, v24, v25, v26, v27, v28, v29, v30, v31], _ => ⟨v0, v1, v2, v3, v4, v5, v6, v7, v8, v9, v10, v11, v12, v13, v14, v15, v16, v17, v18, v19, v20, v21, v22, v23, v24, v25, v26, v27, v28, v29, v30, v31, rfl⟩
theorem cells39 : Tryz.prog.cellsOf 39 = 32 := by kernel_rfl
theorem cells37 : Tryz.prog.cellsOf 37 = 16 := by kernel_rfl
theorem types39 : Tryz.prog.cellTypes Tryz.prog.depth 39 = some [22, 23, 23, 23, 23, 2, 23, 23, 23, 23, 23, 23, 4, 4, 23, 23, 22, 23, 2, 22, 9, 30, 31, 21, 4, 4, 2, 21, 32, 33, 30, 2] := by kernel_rfl
theorem ok39 : okTypes Tryz.prog [39, 22, 25, 23, 2, 27, 4, 37, 29, 35, 9, 30, 5, 31, 113, 111, 21, 32, 33] = true := by kernel_rfl

set_option maxRecDepth 100000 in
/-- What the walk needs of a packet that came in. -/
theorem packet_open {H : Type} {enc : TypeId × Value → H} {W : World} {v : Value} {d : DataW H} {p : List MemPlace} (hw : Value.okWide Tryz.prog W .any 0 39 v) (ht : DataW.Trod enc Tryz.prog W 0 (fun _ => true) true 39 v d p) :
    ∃ v0 v1 v2 v3 v4 v5 v6 v7 v8 v9 v10 v11 v12 v13 v14 v15 v16 v17 v18 v19 v20 v21 v22 v23 v24 v25 v26 v27 v28 v29 v30 v31 b1 b2 b3 b4 x, v = .agg #[v0, v1, v2, v3, v4, v5, v6, v7, v8, v9, v10, v11, v12, v13, v14, v15, v16, v17, v18, v19, v20, v21, v22, v23, v24, v25, v26, v27, v28, v29, v30, v31] ∧ okOpq v0 = true ∧ okOpq v1 = true ∧ okOpq v2 = true ∧ okOpq v3 = true ∧ okOpq v4 = true ∧ okOpq v5 = true ∧ okOpq v6 = true ∧ okOpq v7 = true ∧ okOpq v8 = true ∧ okOpq v9 = true ∧ okOpq v10 = true ∧ okOpq v11 = true ∧ v12 = .bool b1 ∧ v13 = .bool b2 ∧ okOpq v14 = true ∧ okOpq v15 = true ∧ okOpq v16 = true ∧ okOpq v17 = true ∧ okOpq v18 = true ∧ okOpq v19 = true ∧ okOpq v20 = true ∧ okOpq v21 = true ∧ okOpq v22 = true ∧ okOpq v23 = true ∧ v24 = .bool b3 ∧ v25 = .bool b4 ∧ okOpq v26 = true ∧ okOpq v27 = true ∧ okOpq v28 = true ∧ okOpq v29 = true ∧ okOpq v30 = true ∧ okOpq v31 = true ∧
      PLearnNone.k35.K W x [v19, v20, v21, v22, v23, v24, v25, v26, v27, v28, v29] := by
  obtain ⟨cs, rfl, hsz, hrow⟩ := okWide_row Tryz.underlying39 hw
  rw [cells39] at hsz
  obtain ⟨l⟩ := cs
  obtain ⟨v0, v1, v2, v3, v4, v5, v6, v7, v8, v9, v10, v11, v12, v13, v14, v15, v16, v17, v18, v19, v20, v21, v22, v23, v24, v25, v26, v27, v28, v29, v30, v31, rfl⟩ := list32 l (by simpa using hsz)
  obtain ⟨fuel, hf⟩ := ht
  obtain ⟨ds, hh, hfit⟩ := trod_fit ok39 fuel 39 _ _ (by decide) hf
  obtain ⟨m, rfl, hl, hfs⟩ := PLearnNone.fit_field Tryz.underlying39 hfit
  have h10 := PLearnNone.fit_part hfs (i := 10) rfl (u := 37) rfl cells37
  have k10 := PLearnNone.hold_tail hh 14 16
  obtain ⟨m2, rfl, hl2, hfs2⟩ := PLearnNone.fit_field Tryz.underlying37 h10
  have h2 := PLearnNone.fit_part hfs2 (i := 2) rfl (u := 35) rfl PLearnNone.cells35
  have k2 := PLearnNone.hold_tail k10 5 11
  obtain ⟨x, hx⟩ := PLearnNone.fit35 h2 k2
  obtain ⟨b1, e12⟩ := cell_bool Tryz.underlying4 (row_cell hrow types39 (i := 12) rfl (u := 4) rfl)
  obtain ⟨b2, e13⟩ := cell_bool Tryz.underlying4 (row_cell hrow types39 (i := 13) rfl (u := 4) rfl)
  obtain ⟨b3, e24⟩ := cell_bool Tryz.underlying4 (row_cell hrow types39 (i := 24) rfl (u := 4) rfl)
  obtain ⟨b4, e25⟩ := cell_bool Tryz.underlying4 (row_cell hrow types39 (i := 25) rfl (u := 4) rfl)
  refine ⟨v0, v1, v2, v3, v4, v5, v6, v7, v8, v9, v10, v11, v12, v13, v14, v15, v16, v17, v18, v19, v20, v21, v22, v23, v24, v25, v26, v27, v28, v29, v30, v31, b1, b2, b3, b4, x, rfl, cell_int Tryz.underlying22 (row_cell hrow types39 (i := 0) rfl (u := 22) rfl), cell_int Tryz.underlying23 (row_cell hrow types39 (i := 1) rfl (u := 23) rfl), cell_int Tryz.underlying23 (row_cell hrow types39 (i := 2) rfl (u := 23) rfl), cell_int Tryz.underlying23 (row_cell hrow types39 (i := 3) rfl (u := 23) rfl), cell_int Tryz.underlying23 (row_cell hrow types39 (i := 4) rfl (u := 23) rfl), cell_int Tryz.underlying2 (row_cell hrow types39 (i := 5) rfl (u := 2) rfl), cell_int Tryz.underlying23 (row_cell hrow types39 (i := 6) rfl (u := 23) rfl), cell_int Tryz.underlying23 (row_cell hrow types39 (i := 7) rfl (u := 23) rfl), cell_int Tryz.underlying23 (row_cell hrow types39 (i := 8) rfl (u := 23) rfl), cell_int Tryz.underlying23 (row_cell hrow types39 (i := 9) rfl (u := 23) rfl), cell_int Tryz.underlying23 (row_cell hrow types39 (i := 10) rfl (u := 23) rfl), cell_int Tryz.underlying23 (row_cell hrow types39 (i := 11) rfl (u := 23) rfl), e12, e13, cell_int Tryz.underlying23 (row_cell hrow types39 (i := 14) rfl (u := 23) rfl), cell_int Tryz.underlying23 (row_cell hrow types39 (i := 15) rfl (u := 23) rfl), cell_int Tryz.underlying22 (row_cell hrow types39 (i := 16) rfl (u := 22) rfl), cell_int Tryz.underlying23 (row_cell hrow types39 (i := 17) rfl (u := 23) rfl), cell_int Tryz.underlying2 (row_cell hrow types39 (i := 18) rfl (u := 2) rfl), cell_int Tryz.underlying22 (row_cell hrow types39 (i := 19) rfl (u := 22) rfl), cell_string Tryz.underlying9 (row_cell hrow types39 (i := 20) rfl (u := 9) rfl), cell_slice Tryz.underlying30 (row_cell hrow types39 (i := 21) rfl (u := 30) rfl), cell_slice Tryz.underlying31 (row_cell hrow types39 (i := 22) rfl (u := 31) rfl), cell_int Tryz.underlying21 (row_cell hrow types39 (i := 23) rfl (u := 21) rfl), e24, e25, cell_int Tryz.underlying2 (row_cell hrow types39 (i := 26) rfl (u := 2) rfl), cell_int Tryz.underlying21 (row_cell hrow types39 (i := 27) rfl (u := 21) rfl), cell_slice Tryz.underlying32 (row_cell hrow types39 (i := 28) rfl (u := 32) rfl), cell_slice Tryz.underlying33 (row_cell hrow types39 (i := 29) rfl (u := 33) rfl), cell_slice Tryz.underlying30 (row_cell hrow types39 (i := 30) rfl (u := 30) rfl), cell_int Tryz.underlying2 (row_cell hrow types39 (i := 31) rfl (u := 2) rfl), ?_⟩
  exact hx

def zpk : Value := .agg #[.int .i8 0, .int .u32 0, .int .u32 0, .int .u32 0, .int .u32 0, .int .i64 0, .int .u32 0, .int .u32 0, .int .u32 0, .int .u32 0, .int .u32 0, .int .u32 0, .bool false, .bool false, .int .u32 0, .int .u32 0, .int .i8 0, .int .u32 0, .int .i64 0, .int .i8 0, .string ⟨#[]⟩, .slice none 0 0, .slice none 0 0, .int .i32 0, .bool false, .bool false, .int .i64 0, .int .i32 0, .slice none 0 0, .slice none 0 0, .slice none 0 0, .int .i64 0]

set_option maxRecDepth 100000 in
theorem lifted (os : Os) (started : os.Started) (H : Type) (enc : TypeId × Value → H) :
    ReturnsInHanded {} Tryz.checked os 3 .any (fun w args => (Rows.learnNoneSpec.pre enc Tryz.prog Tryz.f3 [] false w args ∧ laidMetH Tryz.prog Rows.learnNoneRow.laid w) ∧ sizedMet enc Tryz.prog Tryz.f3 (OpenSpec.ofChange Rows.learnNoneSpec) false w args)
      (Rows.learnNoneSpec.post enc Tryz.prog Tryz.f3 false true false false) := by
  refine returnsInHanded_of_change_and (C := Tryz.checked) (X := fun w _ => laidMetH Tryz.prog Rows.learnNoneRow.laid w) (fun _ _ _ hh h => h.of_heap hh) own started (by kernel_rfl) Tryz.func3
    (ChangeSpec.witness_shaped (enc := enc) (C := Tryz.checked) (os := os) (X := fun w _ => laidMetH Tryz.prog Rows.learnNoneRow.laid w) false (World.laidAll Tryz.prog os Rows.learnNoneRow.laid) #[zpk] 12 (World.laidAll_os _ _ _)
      (World.shaped_of_ZipB (by kernel_rfl) (by kernel_rfl)) (by kernel_rfl) (by kernel_rfl) (by kernel_rfl)
      (by rw [MakeChecks.laidMetH_plain _ _ _ (by kernel_rfl)]; exact laidMet_laidAll _ (by kernel_rfl) (by kernel_rfl))) ?_
  intro W base args ds gs before hval0 hW _ _ hL _
  have hval : ∀ (j : Nat) t v, Tryz.f3.params[j]? = some t → args[j]? = some v → Value.okWide Tryz.prog W .any base t v := hval0
  have hW' := hW
  obtain ⟨p, q, hA0, hV, rfl, hfz, hnd⟩ := hW
  have hA : DataW.TrodAll enc Tryz.prog W 0 (fun _ => true) true Tryz.f3.params.toList args.toList ds p := hA0
  rw [Tryz.params3] at hA hval
  obtain ⟨v0, d0, rfl, rfl, h0⟩ := trodAll_one hA
  obtain ⟨rfl, rfl⟩ := trodVars_none hV
  have k0 := h0
  have lt0 : ∀ x ∈ p, x.block < W.heap.size := by obtain ⟨m, hm⟩ := k0; exact DataW.trod_lt m _ _ _ hm
  have hp0 : Value.okWide Tryz.prog W .any 0 39 v0 := Value.okWide_any_base (hval 0 39 v0 rfl rfl)
  have hwalk : Calls Tryz.prog 3 #[v0] W fun e W' => e = .returned (.bool true) ∧ Below W.heap.size W W' := by
    obtain ⟨v0, v1, v2, v3, v4, v5, v6, v7, v8, v9, v10, v11, v12, v13, v14, v15, v16, v17, v18, v19, v20, v21, v22, v23, v24, v25, v26, v27, v28, v29, v30, v31, b1, b2, b3, b4, x, rfl, g0, g1, g2, g3, g4, g5, g6, g7, g8, g9, g10, g11, rfl, rfl, g14, g15, g16, g17, g18, g19, g20, g21, g22, g23, rfl, rfl, g26, g27, g28, g29, g30, g31, hx⟩ := packet_open hp0 h0
    exact walk (glob_ok hL) g0 g1 g2 g3 g4 g5 g6 g7 g8 g9 g10 g11 g14 g15 g16 g17 g18 g19 g20 g21 g22 g23 g26 g27 g28 g29 g30 g31 hx
  refine hwalk.mono fun e W' ⟨he, bel⟩ => ?_
  subst he
  exact ⟨_, rfl, _, _, _, [], _, [], hW', trodAll_mk1 (shut_bool Tryz.underlying4 _), (trodAll_cons_mk (Below.trod laidOut (by kernel_rfl) (of_decide_eq_true (by kernel_rfl)) k0 bel lt0) trodAll_mk0), rfl, bel.frame _, fun h => by cases h⟩

theorem over : Rows.learnNoneRow.holds Tryz.pinned (OpenSpec.ofChange Rows.learnNoneSpec) :=
  OpenClaim.holds_of_wide 3 Tryz.f3 rfl rfl rfl rfl rfl rfl rfl ⟨rfl, rfl, rfl, rfl, rfl⟩ rfl rfl rfl rfl rfl (by kernel_rfl) Tryz.func3 (by kernel_rfl)
    (of_decide_eq_true (by kernel_rfl)) (by unfold Func.isWrapper; first | (rw [if_pos (by decide +kernel)]; kernel_rfl) | (rw [if_neg (by decide +kernel)]; exact ⟨rfl, rfl⟩))
    (fun os started H enc _ => lifted os started H enc)
end Go.Proofs.YtpgpbaalnmdlaaaGreatDoor
