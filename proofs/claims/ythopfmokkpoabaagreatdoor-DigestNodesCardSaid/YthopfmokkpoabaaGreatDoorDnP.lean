/-
  'lagoonlaw08.DigestNodes' returns true whatever the list, and what is handed in reads as it did. Its listed variables are as the program's text lays them.
-/

import Derived.Test.YthopfmokkpoabaaGreatDoorDnG
import Derived.Test.YthopfmokkpoabaaGreatDoorRows
namespace Go.Proofs.YthopfmokkpoabaaGreatDoor
open Go.ChangeShapes Go.WideShapes Go.ChangeAt Go.RowKit Go.Abs
set_option linter.unusedVariables false
/-! ### The listed variables -/
theorem only_names : (Rows.digestNodesRow.laid.filter fun x => x.1 == "lagoon/txn.names") = [("lagoon/txn.names", .agg (names0.map fun z => .lit (.int .u64 z)))] := by kernel_rfl
theorem only_pow : (Rows.digestNodesRow.laid.filter fun x => x.1 == "internal/strconv.uint64pow10") = [("internal/strconv.uint64pow10", .agg (pow10.map fun z => .lit (.int .u64 z)))] := by kernel_rfl
noncomputable def tyG (g : Nat) : TypeId := ((Tryz.prog.globals[g]?).map (·.type)).getD 0
noncomputable def elG (g : Nat) : TypeId := match Tryz.prog.underlying (tyG g) with
  | some (.array _ e) => e
  | _ => 0
theorem tabs_ok {W : World} (h : laidMetH Tryz.prog Rows.digestNodesRow.laid W) : TabsOk tabs9 W := by
  have h1 := h.filter fun x => x.1 == "lagoon/txn.names"
  rw [only_names] at h1
  have h2 := h.filter fun x => x.1 == "internal/strconv.uint64pow10"
  rw [only_pow] at h2
  intro t ht i u hu
  simp only [tabs9, List.mem_cons, List.not_mem_nil, or_false] at ht
  rcases ht with rfl | rfl
  · exact int_table (t := tyG 0) (e := elG 0) (n := 13) names0 (by kernel_rfl) (by kernel_rfl) (by kernel_rfl) (by kernel_rfl) (by kernel_rfl) (by kernel_rfl) h1 i u hu
  · exact int_table (t := tyG 1) (e := elG 1) (n := 20) pow10 (by kernel_rfl) (by kernel_rfl) (by kernel_rfl) (by kernel_rfl) (by kernel_rfl) (by kernel_rfl) h2 i u hu
theorem glob_ok {W : World} (h : laidMetH Tryz.prog Rows.digestNodesRow.laid W) : TabZ Prot.all W := by
  have h2 := h.filter fun x => x.1 == "internal/strconv.uint64pow10"
  rw [only_pow, MakeChecks.laidMetH_plain _ _ _ (by rfl)] at h2
  exact ⟨⟨Lib.tabIs_of_head (rest := []) (g := 1) (t := tyG 1) (e := elG 1) (n := 20) (zs := Lib.pow10Tab) (k := .u64) (by kernel_rfl) (by kernel_rfl) (by kernel_rfl) (by kernel_rfl) (by kernel_rfl) (by kernel_rfl) h2, trivial⟩, tabs_ok h, trivial⟩
theorem own : ownKnob Tryz.prog.godebug = none := by kernel_rfl
theorem laidOut : laidOutB Tryz.prog = true := by kernel_rfl
theorem okT : okTypes Tryz.prog [22, 35, 9, 27, 28, 33, 21, 5, 41, 37, 39, 31, 29, 2, 3] = true := by kernel_rfl
set_option maxRecDepth 100000 in
theorem lifted (os : Os) (started : os.Started) (H : Type) (enc : TypeId × Value → H) :
    ReturnsInHanded {} Tryz.checked os 3 .any (fun w args => (Rows.digestNodesSpec.pre enc Tryz.prog Tryz.f3 [] false w args ∧ laidMetH Tryz.prog Rows.digestNodesRow.laid w) ∧ sizedMet enc Tryz.prog Tryz.f3 (OpenSpec.ofChange Rows.digestNodesSpec) false w args)
      (Rows.digestNodesSpec.post enc Tryz.prog Tryz.f3 false true false false) := by
  refine returnsInHanded_of_change_and (C := Tryz.checked) (X := fun w _ => laidMetH Tryz.prog Rows.digestNodesRow.laid w) (fun _ _ _ hh h => h.of_heap hh) own started (by kernel_rfl) Tryz.func3
    (ChangeSpec.witness_shaped (enc := enc) (C := Tryz.checked) (os := os) (X := fun w _ => laidMetH Tryz.prog Rows.digestNodesRow.laid w) false (World.laidAll Tryz.prog os Rows.digestNodesRow.laid) #[.slice none 0 0] 12 (World.laidAll_os _ _ _)
      (World.shaped_of_ZipB (by kernel_rfl) (by kernel_rfl)) (by kernel_rfl) (by kernel_rfl) (by kernel_rfl)
      (by rw [MakeChecks.laidMetH_plain _ _ _ (by kernel_rfl)]; exact laidMet_laidAll _ (by kernel_rfl) (by kernel_rfl))) ?_
  intro W base args ds gs before hval0 hW _ hwt hL _
  have hval : ∀ (j : Nat) t v, Tryz.f3.params[j]? = some t → args[j]? = some v → Value.okWide Tryz.prog W .any base t v := hval0
  have hW' := hW
  obtain ⟨p, q, hA0, hV, rfl, hfz, hnd⟩ := hW
  have hA : DataW.TrodAll enc Tryz.prog W 0 (fun _ => true) true Tryz.f3.params.toList args.toList ds p := hA0
  have hwt2 : (DataW.weightsEach Tryz.prog (Tryz.f3.params.toList ++ Rows.digestNodesSpec.plain.varTypes Tryz.prog) (ds ++ gs)).all (· ≤ reachBytes) = true := hwt
  rw [Tryz.params3] at hA hval hwt2
  obtain ⟨v1, d1, rfl, rfl, h1⟩ := trodAll_one hA
  obtain ⟨rfl, rfl⟩ := trodVars_none hV
  have all := List.all_eq_true.1 hwt2
  have hR1 : ∀ k ∈ d1.weights Tryz.prog 22, k ≤ reachBytes := fun k hk => of_decide_eq_true (all k (mem_each (i := 0) rfl rfl hk))
  have k1 := h1
  have lt1 : ∀ x ∈ p, x.block < W.heap.size := by obtain ⟨m, hm⟩ := k1; exact DataW.trod_lt m _ _ _ hm
  have hp1 : Value.okWide Tryz.prog W .any 0 22 v1 := Value.okWide_any_base (hval 0 22 v1 rfl rfl)
  have hwalk : Calls Tryz.prog 3 #[v1] W fun e W' => e = .returned (.bool true) ∧ Below W.heap.size W W' := by
    obtain ⟨a1, l1, c1, rfl⟩ := okWide_slice Tryz.underlying22 hp1
    obtain ⟨n1, f1⟩ := h1
    obtain ⟨e1, hh1, hfit1⟩ := trod_fit okT (R := reachBytes) n1 22 _ _ (by decide) f1 hR1
    exact Go.Abs.walk (R := reachBytes) (glob_ok hL) (by decide) hfit1 hh1
  refine hwalk.mono fun e W' ⟨he, bel⟩ => ?_
  subst he
  exact ⟨_, rfl, _, _, _, [], _, [], hW', trodAll_mk1 (shut_bool Tryz.underlying4 _), trodAll_mk1 (Below.trod laidOut (by kernel_rfl) (of_decide_eq_true (by kernel_rfl)) k1 bel lt1), rfl, bel.frame _, fun h => by cases h⟩

theorem over : Rows.digestNodesRow.holds Tryz.pinned (OpenSpec.ofChange Rows.digestNodesSpec) :=
  OpenClaim.holds_of_wide 3 Tryz.f3 rfl rfl rfl rfl rfl rfl rfl ⟨rfl, rfl, rfl, rfl, rfl⟩ rfl rfl rfl rfl rfl (by kernel_rfl) Tryz.func3 (by kernel_rfl)
    (of_decide_eq_true (by kernel_rfl)) (by unfold Func.isWrapper; first | (rw [if_pos (by decide +kernel)]; kernel_rfl) | (rw [if_neg (by decide +kernel)]; exact ⟨rfl, rfl⟩))
    (fun os started H enc _ => lifted os started H enc)
end Go.Proofs.YthopfmokkpoabaaGreatDoor
