/-
  'LearnNone' over a world: the closed run and the contract of 'Large' put together.
-/
import Derived.Test.YtpgpbaalnmdlaaaGreatDoorLnRun
import Derived.Test.YtpgpbaalnmdlaaaGreatDoorLnEnds
namespace Go.Proofs.YtpgpbaalnmdlaaaGreatDoor
open Go.Abs Go.RowKit
set_option linter.unusedVariables false

theorem mixed : Tryz.prog.follows .mixedOrders = true := by kernel_rfl
theorem noGoes : noGo Tryz.prog = true := by kernel_rfl
theorem env_ng_ok {P : Program} (h : noGo P = true) (n : Nat) : EnvOk P { env P with ng := n } := ⟨(env_ok h).info, (env_ok h).fn⟩
theorem env42 : EnvOk Tryz.prog E42 := env_ng_ok noGoes 42
theorem noPlain_ok {P : Program} {pr : Prot} {w0 : World} {ng : Nat} : SumsOk P pr w0 ng noPlain := fun f s h => by simp [noPlain] at h
theorem noExt_ok {P : Program} {pr : Prot} {w0 : World} {ng : Nat} : ExtOk P pr w0 ng noExt := fun f s h => by simp [noExt] at h
theorem par_ok {P : Program} {E : Env} (hE : EnvOk P E) (hm : P.follows .mixedOrders = true) {pr : Prot} {w0 : World} {S : FuncId → Option SumO} {d n : Nat} (hS : ∀ f g, S f = some g → SumOk P pr w0 E.ng f g) : ParOk P E pr w0 ⟨S, noExt, callN P E noPlain noExt d n⟩ :=
  ⟨hS, noExt_ok, callN_ok hE hm (fun _ _ => noPlain_ok) (fun _ _ => noExt_ok) n d⟩

def tabV (l : List Value) (n : Nat) : Option Value := if 10 ≤ n then l[n - 10]? else none
/-- The globals that the call reads. -/
structure GlobOk (w : World) : Prop where
  a : ∀ (i : Nat) (u : Value), (named0.map (Value.int .i64))[i]? = some u → 0 < w.heap.size ∧ w.cell? ⟨0, i, none⟩ = some u
  b : ∀ (i : Nat) (u : Value), (names1.map (Value.int .u64))[i]? = some u → 1 < w.heap.size ∧ w.cell? ⟨1, i, none⟩ = some u

theorem mk_get (next : Nat) (a b : AObj) (n : Nat) (o : AObj) (h : (mkHp next [(0, a), (1, b)]).get n = some o) : (n = 0 ∧ o = a) ∨ (n = 1 ∧ o = b) := by
  unfold mkHp Hp.get at h
  simp only at h
  rw [mkT_get _ _ (by intro p hp; simp at hp; rcases hp with rfl | rfl <;> (simp only [limit]; decide))] at h
  simp only [Go.Abs.look] at h
  split at h
  · rename_i e; exact .inl ⟨e, (Option.some.inj h).symm⟩
  · split at h
    · rename_i e; exact .inr ⟨e, (Option.some.inj h).symm⟩
    · cases h

theorem sim_words {w : World} (hg : GlobOk w) (l : List Value) : Sim (Prot.words (tabV l)) w 42 { loc := fun n => (n, 0), ext := fun _ => 0, opq := tabV l } μ42 w where
  os := rfl
  tape := rfl
  output := rfl
  size := Nat.le_refl _
  prot _ _ _ := rfl
  lt n o h := by rcases mk_get _ _ _ n o h with ⟨rfl, _⟩ | ⟨rfl, _⟩ <;> decide
  obj n o h := by rcases mk_get _ _ _ n o h with ⟨_, rfl⟩ | ⟨_, rfl⟩ <;> trivial
  blk n o h hl := by rcases mk_get _ _ _ n o h with ⟨_, rfl⟩ | ⟨_, rfl⟩ <;> cases hl
  free n o h hl := by rcases mk_get _ _ _ n o h with ⟨_, rfl⟩ | ⟨_, rfl⟩ <;> cases hl
  inj n m o o' h _ hl := by rcases mk_get _ _ _ n o h with ⟨_, rfl⟩ | ⟨_, rfl⟩ <;> cases hl
  lim := by decide
  glob g hg := ⟨⟨rfl, rfl⟩, hg⟩
  ro n o h := by
    rcases mk_get _ _ _ n o h with ⟨rfl, rfl⟩ | ⟨rfl, rfl⟩
    · intro i u hu
      obtain ⟨h1, h2⟩ := hg.a i u hu
      refine ⟨h1, trivial, by simpa using h2, ?_⟩
      obtain ⟨z, _, rfl⟩ := List.mem_map.1 (List.mem_of_getElem? hu)
      exact fun ι => by simp
    · intro i u hu
      obtain ⟨h1, h2⟩ := hg.b i u hu
      refine ⟨h1, trivial, by simpa using h2, ?_⟩
      obtain ⟨z, _, rfl⟩ := List.mem_map.1 (List.mem_of_getElem? hu)
      exact fun ι => by simp
theorem below_words {tab : Nat → Option Value} {w0 w : World} {ι : Ren} {μ : Hp} {ng : Nat} (h : Sim (Prot.words tab) w0 ng ι μ w) : Below w0.heap.size w0 w :=
  ⟨h.os, h.tape, h.output, h.size, fun k hk => h.prot k hk trivial⟩

theorem word {ι : Ren} {l : List Value} {i : Nat} {v : Value} (hi : ι.opq (10 + i) = tabV l (10 + i)) (hl : l[i]? = some v) (hv : okOpq v = true) : conc ι (.chan (some (10 + i))) = v := by
  rw [conc_chan]
  refine Ren.chan_some ?_ hv
  rw [hi]
  unfold tabV
  rw [if_pos (by omega), show 10 + i - 10 = i by omega]
  exact hl
theorem conc_pk {ι : Ren} {b1 b2 b3 b4 : Bool} {v0 v1 v2 v3 v4 v5 v6 v7 v8 v9 v10 v11 v14 v15 v16 v17 v18 v19 v20 v21 v22 v23 v26 v27 v28 v29 v30 v31 : Value} (h0 : okOpq v0 = true) (h1 : okOpq v1 = true) (h2 : okOpq v2 = true) (h3 : okOpq v3 = true) (h4 : okOpq v4 = true) (h5 : okOpq v5 = true) (h6 : okOpq v6 = true) (h7 : okOpq v7 = true) (h8 : okOpq v8 = true) (h9 : okOpq v9 = true) (h10 : okOpq v10 = true) (h11 : okOpq v11 = true) (h14 : okOpq v14 = true) (h15 : okOpq v15 = true) (h16 : okOpq v16 = true) (h17 : okOpq v17 = true) (h18 : okOpq v18 = true) (h19 : okOpq v19 = true) (h20 : okOpq v20 = true) (h21 : okOpq v21 = true) (h22 : okOpq v22 = true) (h23 : okOpq v23 = true) (h26 : okOpq v26 = true) (h27 : okOpq v27 = true) (h28 : okOpq v28 = true) (h29 : okOpq v29 = true) (h30 : okOpq v30 = true) (h31 : okOpq v31 = true) (hq : ∀ g, g < 42 → ι.opq g = tabV [v0, v1, v2, v3, v4, v5, v6, v7, v8, v9, v10, v11, .bool b1, .bool b2, v14, v15, v16, v17, v18, v19, v20, v21, v22, v23, .bool b3, .bool b4, v26, v27, v28, v29, v30, v31] g) :
    conc ι (pkV b1 b2 b3 b4) = .agg #[v0, v1, v2, v3, v4, v5, v6, v7, v8, v9, v10, v11, .bool b1, .bool b2, v14, v15, v16, v17, v18, v19, v20, v21, v22, v23, .bool b3, .bool b4, v26, v27, v28, v29, v30, v31] := by
  unfold pkV
  rw [conc_agg]
  congr 1
  apply Array.ext'
  simp only [Array.toList_map, List.map_cons, List.map_nil, conc_bool]
  rw [show conc ι (.chan (some 10)) = v0 from word (i := 0) (hq 10 (by decide)) rfl h0]
  rw [show conc ι (.chan (some 11)) = v1 from word (i := 1) (hq 11 (by decide)) rfl h1]
  rw [show conc ι (.chan (some 12)) = v2 from word (i := 2) (hq 12 (by decide)) rfl h2]
  rw [show conc ι (.chan (some 13)) = v3 from word (i := 3) (hq 13 (by decide)) rfl h3]
  rw [show conc ι (.chan (some 14)) = v4 from word (i := 4) (hq 14 (by decide)) rfl h4]
  rw [show conc ι (.chan (some 15)) = v5 from word (i := 5) (hq 15 (by decide)) rfl h5]
  rw [show conc ι (.chan (some 16)) = v6 from word (i := 6) (hq 16 (by decide)) rfl h6]
  rw [show conc ι (.chan (some 17)) = v7 from word (i := 7) (hq 17 (by decide)) rfl h7]
  rw [show conc ι (.chan (some 18)) = v8 from word (i := 8) (hq 18 (by decide)) rfl h8]
  rw [show conc ι (.chan (some 19)) = v9 from word (i := 9) (hq 19 (by decide)) rfl h9]
  rw [show conc ι (.chan (some 20)) = v10 from word (i := 10) (hq 20 (by decide)) rfl h10]
  rw [show conc ι (.chan (some 21)) = v11 from word (i := 11) (hq 21 (by decide)) rfl h11]
  rw [show conc ι (.chan (some 24)) = v14 from word (i := 14) (hq 24 (by decide)) rfl h14]
  rw [show conc ι (.chan (some 25)) = v15 from word (i := 15) (hq 25 (by decide)) rfl h15]
  rw [show conc ι (.chan (some 26)) = v16 from word (i := 16) (hq 26 (by decide)) rfl h16]
  rw [show conc ι (.chan (some 27)) = v17 from word (i := 17) (hq 27 (by decide)) rfl h17]
  rw [show conc ι (.chan (some 28)) = v18 from word (i := 18) (hq 28 (by decide)) rfl h18]
  rw [show conc ι (.chan (some 29)) = v19 from word (i := 19) (hq 29 (by decide)) rfl h19]
  rw [show conc ι (.chan (some 30)) = v20 from word (i := 20) (hq 30 (by decide)) rfl h20]
  rw [show conc ι (.chan (some 31)) = v21 from word (i := 21) (hq 31 (by decide)) rfl h21]
  rw [show conc ι (.chan (some 32)) = v22 from word (i := 22) (hq 32 (by decide)) rfl h22]
  rw [show conc ι (.chan (some 33)) = v23 from word (i := 23) (hq 33 (by decide)) rfl h23]
  rw [show conc ι (.chan (some 36)) = v26 from word (i := 26) (hq 36 (by decide)) rfl h26]
  rw [show conc ι (.chan (some 37)) = v27 from word (i := 27) (hq 37 (by decide)) rfl h27]
  rw [show conc ι (.chan (some 38)) = v28 from word (i := 28) (hq 38 (by decide)) rfl h28]
  rw [show conc ι (.chan (some 39)) = v29 from word (i := 29) (hq 39 (by decide)) rfl h29]
  rw [show conc ι (.chan (some 40)) = v30 from word (i := 30) (hq 40 (by decide)) rfl h30]
  rw [show conc ι (.chan (some 41)) = v31 from word (i := 31) (hq 41 (by decide)) rfl h31]
theorem conc_rq {ι : Ren} {b1 b2 b3 b4 : Bool} {v0 v1 v2 v3 v4 v5 v6 v7 v8 v9 v10 v11 v14 v15 v16 v17 v18 v19 v20 v21 v22 v23 v26 v27 v28 v29 v30 v31 : Value} (h0 : okOpq v0 = true) (h1 : okOpq v1 = true) (h2 : okOpq v2 = true) (h3 : okOpq v3 = true) (h4 : okOpq v4 = true) (h5 : okOpq v5 = true) (h6 : okOpq v6 = true) (h7 : okOpq v7 = true) (h8 : okOpq v8 = true) (h9 : okOpq v9 = true) (h10 : okOpq v10 = true) (h11 : okOpq v11 = true) (h14 : okOpq v14 = true) (h15 : okOpq v15 = true) (h16 : okOpq v16 = true) (h17 : okOpq v17 = true) (h18 : okOpq v18 = true) (h19 : okOpq v19 = true) (h20 : okOpq v20 = true) (h21 : okOpq v21 = true) (h22 : okOpq v22 = true) (h23 : okOpq v23 = true) (h26 : okOpq v26 = true) (h27 : okOpq v27 = true) (h28 : okOpq v28 = true) (h29 : okOpq v29 = true) (h30 : okOpq v30 = true) (h31 : okOpq v31 = true) (hq : ∀ g, g < 42 → ι.opq g = tabV [v0, v1, v2, v3, v4, v5, v6, v7, v8, v9, v10, v11, .bool b1, .bool b2, v14, v15, v16, v17, v18, v19, v20, v21, v22, v23, .bool b3, .bool b4, v26, v27, v28, v29, v30, v31] g) :
    conc ι (rqV b3 b4) = .agg #[v19, v20, v21, v22, v23, .bool b3, .bool b4, v26, v27, v28, v29] := by
  unfold rqV
  rw [conc_agg]
  congr 1
  apply Array.ext'
  simp only [Array.toList_map, List.map_cons, List.map_nil, conc_bool]
  rw [show conc ι (.chan (some 29)) = v19 from word (i := 19) (hq 29 (by decide)) rfl h19]
  rw [show conc ι (.chan (some 30)) = v20 from word (i := 20) (hq 30 (by decide)) rfl h20]
  rw [show conc ι (.chan (some 31)) = v21 from word (i := 21) (hq 31 (by decide)) rfl h21]
  rw [show conc ι (.chan (some 32)) = v22 from word (i := 22) (hq 32 (by decide)) rfl h22]
  rw [show conc ι (.chan (some 33)) = v23 from word (i := 23) (hq 33 (by decide)) rfl h23]
  rw [show conc ι (.chan (some 36)) = v26 from word (i := 26) (hq 36 (by decide)) rfl h26]
  rw [show conc ι (.chan (some 37)) = v27 from word (i := 27) (hq 37 (by decide)) rfl h27]
  rw [show conc ι (.chan (some 38)) = v28 from word (i := 28) (hq 38 (by decide)) rfl h28]
  rw [show conc ι (.chan (some 39)) = v29 from word (i := 29) (hq 39 (by decide)) rfl h29]

theorem walk {w : World} (hg : GlobOk w) {b1 b2 b3 b4 : Bool} {v0 v1 v2 v3 v4 v5 v6 v7 v8 v9 v10 v11 v14 v15 v16 v17 v18 v19 v20 v21 v22 v23 v26 v27 v28 v29 v30 v31 : Value} (h0 : okOpq v0 = true) (h1 : okOpq v1 = true) (h2 : okOpq v2 = true) (h3 : okOpq v3 = true) (h4 : okOpq v4 = true) (h5 : okOpq v5 = true) (h6 : okOpq v6 = true) (h7 : okOpq v7 = true) (h8 : okOpq v8 = true) (h9 : okOpq v9 = true) (h10 : okOpq v10 = true) (h11 : okOpq v11 = true) (h14 : okOpq v14 = true) (h15 : okOpq v15 = true) (h16 : okOpq v16 = true) (h17 : okOpq v17 = true) (h18 : okOpq v18 = true) (h19 : okOpq v19 = true) (h20 : okOpq v20 = true) (h21 : okOpq v21 = true) (h22 : okOpq v22 = true) (h23 : okOpq v23 = true) (h26 : okOpq v26 = true) (h27 : okOpq v27 = true) (h28 : okOpq v28 = true) (h29 : okOpq v29 = true) (h30 : okOpq v30 = true) (h31 : okOpq v31 = true) {x : PLearnNone.S35} (hx : PLearnNone.k35.K w x [v19, v20, v21, v22, v23, .bool b3, .bool b4, v26, v27, v28, v29]) :
    Calls Tryz.prog 3 #[.agg #[v0, v1, v2, v3, v4, v5, v6, v7, v8, v9, v10, v11, .bool b1, .bool b2, v14, v15, v16, v17, v18, v19, v20, v21, v22, v23, .bool b3, .bool b4, v26, v27, v28, v29, v30, v31]] w fun e w' => e = .returned (.bool true) ∧ Below w.heap.size w w' := by
  obtain ⟨r, hlarge⟩ := PLearnNone.large_calls hx
  have hS := sim_words hg [v0, v1, v2, v3, v4, v5, v6, v7, v8, v9, v10, v11, .bool b1, .bool b2, v14, v15, v16, v17, v18, v19, v20, v21, v22, v23, .bool b3, .bool b4, v26, v27, v28, v29, v30, v31]
  have hX : ParOk Tryz.prog E42 (Prot.words (tabV [v0, v1, v2, v3, v4, v5, v6, v7, v8, v9, v10, v11, .bool b1, .bool b2, v14, v15, v16, v17, v18, v19, v20, v21, v22, v23, .bool b3, .bool b4, v26, v27, v28, v29, v30, v31])) w (X42 r b3 b4) := by
    refine par_ok env42 mixed (fun f g hf => ?_)
    simp only [S4] at hf
    cases hf4 : Nat.beq f 4 with
    | false => rw [hf4] at hf; cases hf
    | true =>
      rw [hf4] at hf
      have := Nat.eq_of_beq_eq_true hf4
      subst this
      simp only [cond_true, Option.some.injEq] at hf
      subst hf
      intro args μ e μ' p h hp ι w' hS' hb
      simp only [Option.some.injEq, Prod.mk.injEq] at h
      obtain ⟨rfl, rfl, rfl⟩ := h
      subst hp
      refine calls_stays hS' (fun ι => by simp) ?_
      have hc := conc_rq (ι := ι) (b1 := b1) (b2 := b2) (b3 := b3) (b4 := b4) h0 h1 h2 h3 h4 h5 h6 h7 h8 h9 h10 h11 h14 h15 h16 h17 h18 h19 h20 h21 h22 h23 h26 h27 h28 h29 h30 h31 (fun g hg => (hS'.glob g hg).1.2)
      simp only [List.map_cons, List.map_nil, hc]
      exact hlarge w' (below_words hS')
  have hc := conc_pk (ι := { loc := fun n => (n, 0), ext := fun _ => 0, opq := tabV [v0, v1, v2, v3, v4, v5, v6, v7, v8, v9, v10, v11, .bool b1, .bool b2, v14, v15, v16, v17, v18, v19, v20, v21, v22, v23, .bool b3, .bool b4, v26, v27, v28, v29, v30, v31] }) (b1 := b1) (b2 := b2) (b3 := b3) (b4 := b4) h0 h1 h2 h3 h4 h5 h6 h7 h8 h9 h10 h11 h14 h15 h16 h17 h18 h19 h20 h21 h22 h23 h26 h27 h28 h29 h30 h31 (fun g hg => rfl)
  have hrun : ansW (callW Tryz.prog E42 (X42 r b3 b4) 5000 3 [pkV b1 b2 b3 b4] μ42 []) = some (.bool true, True ∧ [rqV b3 b4] = [rqV b3 b4]) := by
    cases r
    · exact run_small b1 b2 b3 b4
    · exact run_large b1 b2 b3 b4
  unfold ansW at hrun
  split at hrun
  · rename_i v μ' orc' p hcall
    simp only [Option.some.injEq, Prod.mk.injEq] at hrun
    obtain ⟨rfl, rfl⟩ := hrun
    have hcalls := callW_ok env42 mixed hX hcall ⟨trivial, trivial⟩ hS (by
      intro x hx
      rw [List.mem_singleton] at hx
      subst hx
      unfold pkV
      rw [Bd_agg]
      intro y hy
      simp only [List.mem_toArray, List.mem_cons, List.not_mem_nil, or_false] at hy
      rcases hy with rfl | rfl | rfl | rfl | rfl | rfl | rfl | rfl | rfl | rfl | rfl | rfl | rfl | rfl | rfl | rfl | rfl | rfl | rfl | rfl | rfl | rfl | rfl | rfl | rfl | rfl | rfl | rfl | rfl | rfl | rfl | rfl <;> simp [μ42, mkHp])
    simp only [List.map_cons, List.map_nil, hc] at hcalls
    refine hcalls.mono ?_
    rintro e w' ⟨ι', hx', hl, hS', he⟩
    refine ⟨?_, below_words hS'⟩
    cases e with
    | returned v' => obtain ⟨h1, _⟩ := he; rw [h1]; simp
    | _ => exact he.elim
  · cases hrun
end Go.Proofs.YtpgpbaalnmdlaaaGreatDoor
