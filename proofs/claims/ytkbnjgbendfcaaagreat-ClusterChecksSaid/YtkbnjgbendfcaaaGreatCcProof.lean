/-
  'lagoonlaw25.ClusterChecks' returns true whatever the configuration, and what is handed in reads as it did. No condition.
-/
import Derived.Test.YtkbnjgbendfcaaaGreatCcD
import Derived.Test.YtkbnjgbendfcaaaGreatRows
import Derived.WalkKit
import Derived.ProofKit
import Derived.OpenShut
import Derived.ChangeOld
import Derived.Below
namespace Go.Proofs.YtkbnjgbendfcaaaGreat
open Go.ChangeShapes Go.WideShapes Go.ChangeAt Go.RowKit Go.Abs
set_option linter.unusedVariables false
theorem own : ownKnob Tryz.prog.godebug = none := by kernel_rfl
theorem laidOut : laidOutB Tryz.prog = true := by kernel_rfl
theorem cells26 : Tryz.prog.cellsOf 26 = 9 := by kernel_rfl
theorem ok26 : okTypes Tryz.prog [26, 22, 3, 23, 24] = true := by kernel_rfl
theorem le_max : ∀ (l : List Nat) (k : Nat), k ∈ l → k ≤ l.foldr max 0
  | [], k, h => by simp at h
  | a :: l, k, h => by
    rcases List.mem_cons.1 h with rfl | h
    · simp; omega
    · have := le_max l k h
      simp only [List.foldr_cons]
      omega
theorem nine {α : Type} : ∀ (l : List α), l.length = 9 → ∃ a b c d e f g h i, l = [a, b, c, d, e, f, g, h, i]
  | [a, b, c, d, e, f, g, h, i], _ => ⟨a, b, c, d, e, f, g, h, i, rfl⟩
theorem u26 : ∃ fs : Array Field, Tryz.prog.underlying 26 = some (.struct fs) ∧ (fs.toList.map fun f => (f.type, f.offset)) = [(22, 0), (22, 1), (3, 2), (23, 3), (3, 4), (3, 5), (3, 6), (24, 7), (24, 8)] := ⟨_, Tryz.underlying26, by kernel_rfl⟩
set_option maxRecDepth 100000 in
/-- A configuration that came in. -/
theorem config_open {H : Type} {enc : TypeId × Value → H} {W : World} {v : Value} {d : DataW H} {p : List MemPlace} (hw : Value.okWide Tryz.prog W .any 0 26 v) (ht : DataW.Trod enc Tryz.prog W 0 (fun _ => true) true 26 v d p) :
    ∃ v0 v1 ca fa ch se ro le lc, v = .agg ⟨cf v0 v1 ca fa ch se ro le lc⟩ ∧ IsList W v0 ∧ IsList W v1 ∧ fa < 18446744073709551616 := by
  obtain ⟨fs, hfs, hlist⟩ := u26
  obtain ⟨cs, rfl, hsz, _⟩ := okWide_row hfs hw
  rw [cells26] at hsz
  obtain ⟨l⟩ := cs
  obtain ⟨x0, x1, x2, x3, x4, x5, x6, x7, x8, rfl⟩ := nine l (by simpa using hsz)
  obtain ⟨fuel, hf⟩ := ht
  obtain ⟨ds, hh, hfit⟩ := trod_fit ok26 (R := ((d.weights Tryz.prog 26).foldr max 0)) fuel 26 _ _ (by decide) hf (fun k hk => le_max _ k hk)
  obtain ⟨m, rfl, hl, hfl⟩ := fit_field hfs hfit
  rw [cells26] at hl
  obtain ⟨d0, d1, d2, d3, d4, d5, d6, d7, d8, rfl⟩ := nine ds hl
  have hget : ∀ (i : Nat) (t o : Nat), ([(22, 0), (22, 1), (3, 2), (23, 3), (3, 4), (3, 5), (3, 6), (24, 7), (24, 8)] : List (Nat × Nat))[i]? = some (t, o) → ∃ f, fs[i]? = some f ∧ f.type = t ∧ f.offset = o := by
    intro i t o h
    rw [← hlist, List.getElem?_map, Option.map_eq_some_iff] at h
    obtain ⟨f, h1, h2⟩ := h
    simp only [Prod.mk.injEq] at h2
    exact ⟨f, by simpa using h1, h2.1, h2.2⟩
  have c22 : Tryz.prog.cellsOf 22 = 1 := by kernel_rfl
  have c3 : Tryz.prog.cellsOf 3 = 1 := by kernel_rfl
  have c23 : Tryz.prog.cellsOf 23 = 1 := by kernel_rfl
  have c24 : Tryz.prog.cellsOf 24 = 1 := by kernel_rfl
  have part : ∀ (i : Nat) (t o : Nat), ([(22, 0), (22, 1), (3, 2), (23, 3), (3, 4), (3, 5), (3, 6), (24, 7), (24, 8)] : List (Nat × Nat))[i]? = some (t, o) → Tryz.prog.cellsOf t = 1 → FitD Tryz.prog ((d.weights Tryz.prog 26).foldr max 0) m t (([d0, d1, d2, d3, d4, d5, d6, d7, d8].drop o).take 1) := by
    intro i t o h hc
    obtain ⟨f, h1, h2, h3⟩ := hget i t o h
    have := fit_part hfl h1 h2 hc
    rw [h3] at this
    exact this
  have g0 := part 0 22 0 rfl c22
  have g1 := part 1 22 1 rfl c22
  have g2 := part 2 3 2 rfl c3
  have g3 := part 3 23 3 rfl c23
  have g4 := part 4 3 4 rfl c3
  have g5 := part 5 3 5 rfl c3
  have g6 := part 6 3 6 rfl c3
  have g7 := part 7 24 7 rfl c24
  have g8 := part 8 24 8 rfl c24
  simp only [List.drop_zero, List.drop_succ_cons, List.take_succ_cons, List.take_zero] at g0 g1 g2 g3 g4 g5 g6 g7 g8
  have at' : ∀ i dd vv, [d0, d1, d2, d3, d4, d5, d6, d7, d8][i]? = some dd → [x0, x1, x2, x3, x4, x5, x6, x7, x8][i]? = some vv → DeepOk (fun _ => True) W dd vv := fun i dd vv h1 h2 => hh.2 i dd vv h1 h2
  have i2 := fit_intL Tryz.underlying3 g2
  have i4 := fit_intL Tryz.underlying3 g4
  have i5 := fit_intL Tryz.underlying3 g5
  have i6 := fit_intL Tryz.underlying3 g6
  have i7 := fit_intL Tryz.underlying24 g7
  have i8 := fit_intL Tryz.underlying24 g8
  obtain ⟨ca, h2⟩ := i2
  obtain ⟨ch, h4⟩ := i4
  obtain ⟨se, h5⟩ := i5
  obtain ⟨ro, h6⟩ := i6
  obtain ⟨le, h7⟩ := i7
  obtain ⟨lc, h8⟩ := i8
  have i3 : ∃ fa : Nat, d3 = .val (.float .f64 fa) ∧ fa < 18446744073709551616 := by
    cases m with
    | zero => exact g3.elim
    | succ m =>
      unfold FitD at g3
      rw [Tryz.underlying23] at g3
      obtain ⟨fa, h1, h2⟩ := g3
      simp only [List.cons.injEq, and_true] at h1
      refine ⟨fa, h1, ?_⟩
      simp only [Lit.wf, decide_eq_true_eq] at h2
      exact h2
  obtain ⟨fa, h3, hfa⟩ := i3
  simp only [List.cons.injEq, and_true] at h2 h4 h5 h6 h7 h8
  subst h2; subst h3; subst h4; subst h5; subst h6; subst h7; subst h8
  have e2 := at' 2 _ _ rfl rfl
  have e3 := at' 3 _ _ rfl rfl
  have e4 := at' 4 _ _ rfl rfl
  have e5 := at' 5 _ _ rfl rfl
  have e6 := at' 6 _ _ rfl rfl
  have e7 := at' 7 _ _ rfl rfl
  have e8 := at' 8 _ _ rfl rfl
  rw [deepOk_val] at e2 e3 e4 e5 e6 e7 e8
  refine ⟨x0, x1, ca, fa, ch, se, ro, le, lc, ?_, list_open Tryz.underlying22 Tryz.underlying3 g0 (at' 0 _ _ rfl rfl), list_open Tryz.underlying22 Tryz.underlying3 g1 (at' 1 _ _ rfl rfl), hfa⟩
  rw [e2.1, e3.1, e4.1, e5.1, e6.1, e7.1, e8.1]
  rfl

set_option maxRecDepth 100000 in
theorem lifted (os : Os) (started : os.Started) (H : Type) (enc : TypeId × Value → H) :
    ReturnsInHanded {} Tryz.checked os 3 .any (Rows.clusterChecksSpec.pre6 enc Tryz.prog Tryz.f3 Rows.clusterChecksRow.domain false) (Rows.clusterChecksSpec.post enc Tryz.prog Tryz.f3 false true false false) := by
  refine returnsInHanded_of_change (C := Tryz.checked) own started (by kernel_rfl) Tryz.func3
    (ChangeSpec.witness6 (enc := enc) (C := Tryz.checked) false ⟨#[], #[.agg #[.slice none 0 0, .slice none 0 0, .int .i64 0, .float .f64 0, .int .i64 0, .int .i64 0, .int .i64 0, .int .u32 0, .int .u32 0]], []⟩ 8 (by kernel_rfl) (by kernel_rfl) (by kernel_rfl) (by kernel_rfl)) ?_
  intro W base args ds gs before hval0 hW hcnd _
  have hval : ∀ (j : Nat) t v, Tryz.f3.params[j]? = some t → args[j]? = some v → Value.okWide Tryz.prog W .any base t v := hval0
  have hW' := hW
  obtain ⟨p, q, hA0, hV, rfl, hfz, hnd⟩ := hW
  have hA : DataW.TrodAll enc Tryz.prog W 0 (fun _ => true) true Tryz.f3.params.toList args.toList ds p := hA0
  rw [Tryz.params3] at hA hval
  obtain ⟨v0, d0, rfl, rfl, h0⟩ := trodAll_one hA
  obtain ⟨rfl, rfl⟩ := trodVars_none hV
  have k0 := h0
  have lt0 : ∀ x ∈ p, x.block < W.heap.size := by obtain ⟨m, hm⟩ := k0; exact DataW.trod_lt m _ _ _ hm
  have hp0 : Value.okWide Tryz.prog W .any 0 26 v0 := Value.okWide_any_base (hval 0 26 v0 rfl rfl)
  have hwalk : Calls Tryz.prog 3 #[v0] W fun e W' => e = .returned (.bool true) ∧ Below W.heap.size W W' := by
    obtain ⟨v0, v1, ca, fa, ch, se, ro, le, lc, rfl, l0, l1, hfa⟩ := config_open hp0 h0
    exact top_all ca fa ch se ro le lc hfa l0 l1
  refine hwalk.mono fun e W' ⟨he, bel⟩ => ?_
  subst he
  exact ⟨_, rfl, _, _, _, [], _, [], hW', trodAll_mk1 (shut_bool Tryz.underlying4 _), (trodAll_cons_mk (Below.trod laidOut (by kernel_rfl) (of_decide_eq_true (by kernel_rfl)) k0 bel lt0) trodAll_mk0), rfl, bel.frame _, fun h => by cases h⟩

theorem over : Rows.clusterChecksRow.holds Tryz.pinned (OpenSpec.ofChange Rows.clusterChecksSpec) :=
  OpenClaim.holds_of_wide 3 Tryz.f3 rfl rfl rfl rfl rfl rfl rfl ⟨rfl, rfl, rfl, rfl, rfl⟩ rfl rfl rfl rfl rfl (by kernel_rfl) Tryz.func3 (by kernel_rfl)
    (of_decide_eq_true (by kernel_rfl)) (by unfold Func.isWrapper; first | (rw [if_pos (by decide +kernel)]; kernel_rfl) | (rw [if_neg (by decide +kernel)]; exact ⟨rfl, rfl⟩))
    (fun os started H enc _ => lifted os started H enc)

/-- The statement. -/
theorem clusterChecks : Rows.ClusterChecksSaid := over
#print axioms clusterChecks
end Go.Proofs.YtkbnjgbendfcaaaGreat
