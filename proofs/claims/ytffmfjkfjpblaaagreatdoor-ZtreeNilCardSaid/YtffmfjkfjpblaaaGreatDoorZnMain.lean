/-
  'ZtreeNil' over a world.
-/
import Derived.Test.YtffmfjkfjpblaaaGreatDoorZnWords
namespace Go.Proofs.YtffmfjkfjpblaaaGreatDoor
open Go.Abs Go.RowKit
set_option linter.unusedVariables false

theorem walk {R n m : Nat} (hR : R ≤ 140737488351232) {w : World} (hg : GlobOk w) {b1 b2 b3 b4 : Bool} {v0 v1 v2 v3 v4 v5 v6 v7 v8 v9 v12 v13 v14 v15 v16 v17 v18 v19 v20 v23 v24 v25 v26 v27 : Value} (h0 : okOpq v0 = true) (h1 : okOpq v1 = true) (h2 : okOpq v2 = true) (h3 : okOpq v3 = true) (h4 : okOpq v4 = true) (h5 : okOpq v5 = true) (h6 : okOpq v6 = true) (h7 : okOpq v7 = true) (h8 : okOpq v8 = true) (h9 : okOpq v9 = true) (h12 : okOpq v12 = true) (h13 : okOpq v13 = true) (h14 : okOpq v14 = true) (h15 : okOpq v15 = true) (h16 : okOpq v16 = true) (h17 : okOpq v17 = true) (h18 : okOpq v18 = true) (h19 : okOpq v19 = true) (h20 : okOpq v20 = true) (h23 : okOpq v23 = true) (h24 : okOpq v24 = true) (h25 : okOpq v25 = true) (h26 : okOpq v26 = true) (h27 : okOpq v27 = true)
    {t0 t1 t2 t3 t4 : Int} (e0 : v0 = .int .u32 t0) (e1 : v1 = .int .u32 t1) (e2 : v2 = .int .i8 t2) (e3 : v3 = .int .u32 t3) (e4 : v4 = .int .i64 t4)
    {x y : PZtreeNil.S33} (hx : PZtreeNil.k33.K w x [v5, v6, v7, v8, v9, .bool b1, .bool b2, v12, v13, v14, v15]) (hsx : PZtreeNil.Small R n x) (hy : PZtreeNil.k33.K w y [v16, v17, v18, v19, v20, .bool b3, .bool b4, v23, v24, v25, v26]) (hsy : PZtreeNil.Small R m y) :
    Calls Tryz.prog 3 #[.agg #[v0, v1, v2, v3, v4, v5, v6, v7, v8, v9, .bool b1, .bool b2, v12, v13, v14, v15], .agg #[v16, v17, v18, v19, v20, .bool b3, .bool b4, v23, v24, v25, v26], v27] w fun e w' => e = .returned (.bool true) ∧ Below w.heap.size w w' := by
  obtain ⟨r1, L1⟩ := PZtreeNil.large_calls hx
  obtain ⟨r2, L2⟩ := PZtreeNil.large_calls hy
  obtain ⟨c1, c2, T⟩ := PZtreeNil.copyTxn_calls hR hx hsx t0 t1 t3 t2 t4
  obtain ⟨c3, c4, Q⟩ := PZtreeNil.copyReq_calls hR hy hsy
  have hS := sim_words hg (tabV [v0, v1, v2, v3, v4, v5, v6, v7, v8, v9, .bool b1, .bool b2, v12, v13, v14, v15, v16, v17, v18, v19, v20, .bool b3, .bool b4, v23, v24, v25, v26, v27])
  have hX : ParOk Tryz.prog E37 (Prot.words (tabV [v0, v1, v2, v3, v4, v5, v6, v7, v8, v9, .bool b1, .bool b2, v12, v13, v14, v15, v16, v17, v18, v19, v20, .bool b3, .bool b4, v23, v24, v25, v26, v27])) w (X37 r1 r2 b1 b2 b3 b4 c1 c2 c3 c4) := by
    refine ⟨fun f g hf => ?_, fun f g hf => ext37 f g hf, callN_ok env37 mixed Sc_ok (fun _ _ => ext37) 100000 5⟩
    simp only [X37, S37] at hf
    have tabs : ∀ {ι : Ren} {μ : Hp} {w' : World}, Sim (Prot.words (tabV [v0, v1, v2, v3, v4, v5, v6, v7, v8, v9, .bool b1, .bool b2, v12, v13, v14, v15, v16, v17, v18, v19, v20, .bool b3, .bool b4, v23, v24, v25, v26, v27])) w E37.ng ι μ w' → ∀ g, g < 37 → ι.opq g = tabV [v0, v1, v2, v3, v4, v5, v6, v7, v8, v9, .bool b1, .bool b2, v12, v13, v14, v15, v16, v17, v18, v19, v20, .bool b3, .bool b4, v23, v24, v25, v26, v27] g := fun hS' g hg => (hS'.glob g hg).1.2
    cases hf5 : Nat.beq f 5 with
    | true =>
      rw [hf5, cond_true, Option.some.injEq] at hf
      have := Nat.eq_of_beq_eq_true hf5
      subst this
      subst hf
      intro args μ e μ' p h hp ι w' hS' hb
      cases hix : isX args with
      | true =>
        simp only [hix, cond_true, Option.some.injEq, Prod.mk.injEq] at h
        obtain ⟨rfl, rfl, rfl⟩ := h
        subst hp
        refine calls_stays hS' (fun ι => by simp) ?_
        have hc := conc_xr (ι := ι) (b1 := b1) (b2 := b2) (b3 := b3) (b4 := b4) h0 h1 h2 h3 h4 h5 h6 h7 h8 h9 h12 h13 h14 h15 h16 h17 h18 h19 h20 h23 h24 h25 h26 h27 (tabs hS')
        simp only [List.map_cons, List.map_nil, hc]
        exact L1 w' (below_words hS')
      | false =>
        simp only [hix, cond_false, Option.some.injEq, Prod.mk.injEq] at h
        obtain ⟨rfl, rfl, rfl⟩ := h
        subst hp
        refine calls_stays hS' (fun ι => by simp) ?_
        have hc := conc_r (ι := ι) (b1 := b1) (b2 := b2) (b3 := b3) (b4 := b4) h0 h1 h2 h3 h4 h5 h6 h7 h8 h9 h12 h13 h14 h15 h16 h17 h18 h19 h20 h23 h24 h25 h26 h27 (tabs hS')
        simp only [List.map_cons, List.map_nil, hc]
        exact L2 w' (below_words hS')
    | false =>
    rw [hf5, cond_false] at hf
    cases hf13 : Nat.beq f 13 with
    | true =>
      rw [hf13, cond_true, Option.some.injEq] at hf
      have := Nat.eq_of_beq_eq_true hf13
      subst this
      subst hf
      intro args μ e μ' p h hp ι w' hS' hb
      cases hle : Nat.ble (μ.next + 16) limit with
      | false => simp only [hle, cond_false] at h; cases h
      | true =>
        simp only [hle, cond_true, Option.some.injEq, Prod.mk.injEq] at h
        obtain ⟨rfl, rfl, rfl⟩ := h
        subst hp
        have hc := conc_x (ι := ι) (b1 := b1) (b2 := b2) (b3 := b3) (b4 := b4) h0 h1 h2 h3 h4 h5 h6 h7 h8 h9 h12 h13 h14 h15 h16 h17 h18 h19 h20 h23 h24 h25 h26 h27 (tabs hS')
        simp only [List.map_cons, List.map_nil, hc]
        subst e0; subst e1; subst e2; subst e3; subst e4
        refine (T w' (below_words hS')).mono ?_
        rintro e w'' ⟨v, rfl, ⟨a0, a1, a2, a3, a4, a5, a6, a7, a8, a9, a12, a13, a14, a15, rfl, ka0, ka1, ka2, ka3, ka4, ka5, ka6, ka7, ka8, ka9, ka12, ka13, ka14, ka15⟩, hbel⟩
        obtain ⟨ι', hx', hq, hS2⟩ := sim_more (hS'.stays hbel) [a0, a1, a2, a3, a4, a5, a6, a7, a8, a9, .bool c1, .bool c2, a12, a13, a14, a15] 16 (Nat.le_of_ble_eq_true hle)
        refine ⟨ι', hx', Nat.le_add_right _ _, hS2, ?_, ?_⟩
        · rw [conc_xN ka0 ka1 ka2 ka3 ka4 ka5 ka6 ka7 ka8 ka9 ka12 ka13 ka14 ka15 hq]
        · unfold xN
          rw [Bd_agg]
          intro z hz
          simp only [List.mem_toArray, List.mem_cons, List.not_mem_nil, or_false] at hz
          rcases hz with rfl | rfl | rfl | rfl | rfl | rfl | rfl | rfl | rfl | rfl | rfl | rfl | rfl | rfl | rfl | rfl <;> simp
    | false =>
    rw [hf13, cond_false] at hf
    cases hf15 : Nat.beq f 15 with
    | true =>
      rw [hf15, cond_true, Option.some.injEq] at hf
      have := Nat.eq_of_beq_eq_true hf15
      subst this
      subst hf
      intro args μ e μ' p h hp ι w' hS' hb
      cases hle : Nat.ble (μ.next + 11) limit with
      | false => simp only [hle, cond_false] at h; cases h
      | true =>
        simp only [hle, cond_true, Option.some.injEq, Prod.mk.injEq] at h
        obtain ⟨rfl, rfl, rfl⟩ := h
        subst hp
        have hc := conc_r (ι := ι) (b1 := b1) (b2 := b2) (b3 := b3) (b4 := b4) h0 h1 h2 h3 h4 h5 h6 h7 h8 h9 h12 h13 h14 h15 h16 h17 h18 h19 h20 h23 h24 h25 h26 h27 (tabs hS')
        simp only [List.map_cons, List.map_nil, hc]
        refine (Q w' (below_words hS')).mono ?_
        rintro e w'' ⟨v, rfl, ⟨a0, a1, a2, a3, a4, a7, a8, a9, a10, rfl, ka0, ka1, ka2, ka3, ka4, ka7, ka8, ka9, ka10⟩, hbel⟩
        obtain ⟨ι', hx', hq, hS2⟩ := sim_more (hS'.stays hbel) [a0, a1, a2, a3, a4, .bool c3, .bool c4, a7, a8, a9, a10] 11 (Nat.le_of_ble_eq_true hle)
        refine ⟨ι', hx', Nat.le_add_right _ _, hS2, ?_, ?_⟩
        · rw [conc_rN ka0 ka1 ka2 ka3 ka4 ka7 ka8 ka9 ka10 hq]
        · unfold rN
          rw [Bd_agg]
          intro z hz
          simp only [List.mem_toArray, List.mem_cons, List.not_mem_nil, or_false] at hz
          rcases hz with rfl | rfl | rfl | rfl | rfl | rfl | rfl | rfl | rfl | rfl | rfl <;> simp
    | false =>
    rw [hf15, cond_false] at hf
    cases hf4 : Nat.beq f 4 with
    | true =>
      rw [hf4, cond_true, Option.some.injEq] at hf
      have := Nat.eq_of_beq_eq_true hf4
      subst this
      subst hf
      intro args μ e μ' p h hp ι w' hS' hb
      simp only [Option.some.injEq, Prod.mk.injEq] at h
      obtain ⟨rfl, rfl, rfl⟩ := h
      subst hp
      refine calls_stays hS' (fun ι => by simp) ?_
      exact calls_of_closed env37 mixed Sc_ok (fun _ _ => ext37) works_run (fun x hx => by cases hx) (fun ι => by simp) (sim_words (hg.below (below_words hS')) (fun _ => none))
    | false =>
    rw [hf4, cond_false] at hf
    exact ofPlain_ok (Sc_ok _ _) f g hf
  have hrun : ∃ p : Prop, p ∧ ansW (callW Tryz.prog E37 (X37 r1 r2 b1 b2 b3 b4 c1 c2 c3 c4) 5000 3 [xV b1 b2, rV b3 b4, nV] μ37 []) = some (.bool true, p) := by
    cases r1
    · cases r2
      · exact ⟨_, ⟨⟨⟨⟨⟨⟨⟨trivial, rfl⟩, rfl⟩, rfl⟩, rfl⟩, rfl⟩, rfl⟩, rfl⟩, run3 b1 b2 b3 b4 c1 c2 c3 c4⟩
      · exact ⟨_, ⟨⟨⟨trivial, rfl⟩, rfl⟩, rfl⟩, run2 b1 b2 b3 b4 c1 c2 c3 c4⟩
    · exact ⟨_, ⟨⟨trivial, rfl⟩, rfl⟩, run1 r2 b1 b2 b3 b4 c1 c2 c3 c4⟩
  obtain ⟨p, hp, hrun⟩ := hrun
  have hcx := conc_x (ι := { loc := fun n => (n, 0), ext := fun _ => 0, opq := tabV [v0, v1, v2, v3, v4, v5, v6, v7, v8, v9, .bool b1, .bool b2, v12, v13, v14, v15, v16, v17, v18, v19, v20, .bool b3, .bool b4, v23, v24, v25, v26, v27] }) (b1 := b1) (b2 := b2) (b3 := b3) (b4 := b4) h0 h1 h2 h3 h4 h5 h6 h7 h8 h9 h12 h13 h14 h15 h16 h17 h18 h19 h20 h23 h24 h25 h26 h27 (fun g hg => rfl)
  have hcr := conc_r (ι := { loc := fun n => (n, 0), ext := fun _ => 0, opq := tabV [v0, v1, v2, v3, v4, v5, v6, v7, v8, v9, .bool b1, .bool b2, v12, v13, v14, v15, v16, v17, v18, v19, v20, .bool b3, .bool b4, v23, v24, v25, v26, v27] }) (b1 := b1) (b2 := b2) (b3 := b3) (b4 := b4) h0 h1 h2 h3 h4 h5 h6 h7 h8 h9 h12 h13 h14 h15 h16 h17 h18 h19 h20 h23 h24 h25 h26 h27 (fun g hg => rfl)
  have hcn := conc_n (ι := { loc := fun n => (n, 0), ext := fun _ => 0, opq := tabV [v0, v1, v2, v3, v4, v5, v6, v7, v8, v9, .bool b1, .bool b2, v12, v13, v14, v15, v16, v17, v18, v19, v20, .bool b3, .bool b4, v23, v24, v25, v26, v27] }) (b1 := b1) (b2 := b2) (b3 := b3) (b4 := b4) h0 h1 h2 h3 h4 h5 h6 h7 h8 h9 h12 h13 h14 h15 h16 h17 h18 h19 h20 h23 h24 h25 h26 h27 (fun g hg => rfl)
  unfold ansW at hrun
  split at hrun
  · rename_i v μ' orc' p' hcall
    simp only [Option.some.injEq] at hrun
    obtain ⟨rfl, rfl⟩ := Prod.mk.inj hrun
    have hcalls := callW_ok env37 mixed hX hcall hp hS (by
      intro x hx
      simp only [List.mem_cons, List.not_mem_nil, or_false] at hx
      rcases hx with rfl | rfl | rfl
      · unfold xV
        rw [Bd_agg]
        intro y hy
        simp only [List.mem_toArray, List.mem_cons, List.not_mem_nil, or_false] at hy
        rcases hy with rfl | rfl | rfl | rfl | rfl | rfl | rfl | rfl | rfl | rfl | rfl | rfl | rfl | rfl | rfl | rfl <;> simp [μ37, mkHp]
      · unfold rV
        rw [Bd_agg]
        intro y hy
        simp only [List.mem_toArray, List.mem_cons, List.not_mem_nil, or_false] at hy
        rcases hy with rfl | rfl | rfl | rfl | rfl | rfl | rfl | rfl | rfl | rfl | rfl <;> simp [μ37, mkHp]
      · simp [nV, μ37, mkHp])
    simp only [List.map_cons, List.map_nil, hcx, hcr, hcn] at hcalls
    refine hcalls.mono ?_
    rintro e w' ⟨ι', hx', hl, hS', he⟩
    refine ⟨?_, below_words hS'⟩
    cases e with
    | returned v' => obtain ⟨h1, _⟩ := he; rw [h1]; simp
    | _ => exact he.elim
  · cases hrun
end Go.Proofs.YtffmfjkfjpblaaaGreatDoor
