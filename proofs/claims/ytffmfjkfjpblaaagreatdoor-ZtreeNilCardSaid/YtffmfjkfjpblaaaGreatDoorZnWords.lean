/-
  'ZtreeNil' over a world: the closed runs and the contracts put together.
-/
import Derived.Test.YtffmfjkfjpblaaaGreatDoorZnRun
import Derived.Test.YtffmfjkfjpblaaaGreatDoorZnCopy
namespace Go.Proofs.YtffmfjkfjpblaaaGreatDoor
open Go.Abs Go.RowKit
set_option linter.unusedVariables false

theorem mixed : Tryz.prog.follows .mixedOrders = true := by kernel_rfl
theorem noGoes : noGo Tryz.prog = true := by kernel_rfl
theorem env_ng_ok {P : Program} (h : noGo P = true) (n : Nat) : EnvOk P { env P with ng := n } := ⟨(env_ok h).info, (env_ok h).fn⟩
theorem env37 : EnvOk Tryz.prog E37 := env_ng_ok noGoes 37
theorem noPlain_ok {P : Program} {pr : Prot} {w0 : World} {ng : Nat} : SumsOk P pr w0 ng noPlain := fun f s h => by simp [noPlain] at h
theorem noPlain_asks : Asks0 (ofPlain noPlain) := ofPlain_asks _
theorem ext_ok {P : Program} {fn : Func} (hf : P.funcs[210]? = some fn) (hname : (fn.name == "runtime.NumGoroutine") = false) (hb : fn.body.isNone = true) (hn : Extern.findNext fn = none) (he : Extern.find fn = some Extern.BytealgIndexByte.indexByte)
    {pr : Prot} {w0 : World} {ng : Nat} : ExtOk P pr w0 ng extX := by
  intro f g hg args μ v h ι w hS hbd
  unfold extX at hg
  cases hc : Nat.beq f 210 with
  | false => rw [hc] at hg; cases hg
  | true =>
    rw [hc, cond_true, Option.some.injEq] at hg
    subst hg
    have := Nat.eq_of_beq_eq_true hc
    subst this
    unfold ixb at h
    split at h
    · rename_i s c
      simp only [Option.some.injEq] at h
      subst h
      refine ⟨?_, by simp⟩
      rw [show ([Value.string s, Value.int .u8 c].map (conc ι)).toArray = #[.string s, .int .u8 c] by simp, run_callFunc_indexByte hf hname hb hn he, run_indexByte_string]
      simp
    · cases h
theorem ext37 {pr : Prot} {w0 : World} {ng : Nat} : ExtOk Tryz.prog pr w0 ng extX := by
  obtain ⟨fn, hf⟩ : ∃ fn, Tryz.prog.funcs[210]? = some fn := Option.isSome_iff_exists.1 (by kernel_rfl)
  have e : fn = (Tryz.prog.funcs[210]?).getD default := by rw [hf]; rfl
  exact ext_ok hf (by rw [e]; kernel_rfl) (by rw [e]; kernel_rfl) (by rw [e]; kernel_rfl) (by rw [e]; kernel_rfl)
/-- One more summary by all ways. -/
theorem ways_ok {P : Program} {E : Env} (hE : EnvOk P E) (hm : P.follows .mixedOrders = true) {S : Plain} (hS : ∀ pr w0, SumsOk P pr w0 E.ng S) {XX : FuncId → Option (List Value → Hp → Option Value)} (hX : ∀ pr w0, ExtOk P pr w0 E.ng XX) (d n m : Nat) (pr : Prot) (w0 : World) :
    CallsOk P pr w0 E.ng (callT P E ⟨ofPlain S, XX, callN P E S XX d n⟩ m) :=
  callT_ok (X := ⟨ofPlain S, XX, callN P E S XX d n⟩) hE hm ⟨ofPlain_ok (hS pr w0), hX pr w0, callN_ok hE hm hS hX n d⟩ (ofPlain_asks S) m
theorem Ss_ok (pr : Prot) (w0 : World) : SumsOk Tryz.prog pr w0 E37.ng Ss := by
  intro f s hs
  unfold Ss at hs
  cases hc : (Nat.beq f 33 || Nat.beq f 50) with
  | false => rw [hc] at hs; cases hs
  | true =>
    rw [hc, cond_true, Option.some.injEq] at hs
    subst hs
    exact ways_ok env37 mixed (fun _ _ => noPlain_ok) (fun _ _ => ext37) 5 100000 100000 pr w0 f
theorem Sc_ok (pr : Prot) (w0 : World) : SumsOk Tryz.prog pr w0 E37.ng Sc := by
  intro f s hs
  unfold Sc at hs
  cases hc : Nat.beq f 54 with
  | false => rw [hc, cond_false] at hs; exact Ss_ok pr w0 f s hs
  | true =>
    rw [hc, cond_true, Option.some.injEq] at hs
    subst hs
    exact ways_ok env37 mixed Ss_ok (fun _ _ => ext37) 5 100000 100000 pr w0 f

def tabV (l : List Value) (n : Nat) : Option Value := if 9 ≤ n then l[n - 9]? else none
/-- The global that the call reads. -/
structure GlobOk (w : World) : Prop where
  a : ∀ (i : Nat) (u : Value), (names0.map (Value.int .u64))[i]? = some u → 0 < w.heap.size ∧ w.cell? ⟨0, i, none⟩ = some u
theorem GlobOk.below {w w' : World} (h : GlobOk w) (hb : Below w.heap.size w w') : GlobOk w' :=
  ⟨fun i u hu => ⟨Nat.lt_of_lt_of_le (h.a i u hu).1 hb.size, (hb.cell (by exact (h.a i u hu).1)).trans (h.a i u hu).2⟩⟩
theorem mk_get (next : Nat) (a : AObj) (n : Nat) (o : AObj) (h : (mkHp next [(0, a)]).get n = some o) : n = 0 ∧ o = a := by
  unfold mkHp Hp.get at h
  simp only at h
  rw [mkT_get _ _ (by intro p hp; simp at hp; subst hp; (simp only [limit]; decide))] at h
  simp only [Go.Abs.look] at h
  split at h
  · rename_i e; exact ⟨e, (Option.some.inj h).symm⟩
  · cases h
theorem sim_words {w : World} (hg : GlobOk w) (tab : Nat → Option Value) : Sim (Prot.words tab) w 37 { loc := fun n => (n, 0), ext := fun _ => 0, opq := tab } μ37 w where
  os := rfl
  tape := rfl
  output := rfl
  size := Nat.le_refl _
  prot _ _ _ := rfl
  lt n o h := by obtain ⟨rfl, _⟩ := mk_get _ _ n o h; decide
  obj n o h := by obtain ⟨_, rfl⟩ := mk_get _ _ n o h; trivial
  blk n o h hl := by obtain ⟨_, rfl⟩ := mk_get _ _ n o h; cases hl
  free n o h hl := by obtain ⟨_, rfl⟩ := mk_get _ _ n o h; cases hl
  inj n m o o' h _ hl := by obtain ⟨_, rfl⟩ := mk_get _ _ n o h; cases hl
  lim := by decide
  glob g hg := ⟨⟨rfl, rfl⟩, hg⟩
  ro n o h := by
    obtain ⟨rfl, rfl⟩ := mk_get _ _ n o h
    intro i u hu
    obtain ⟨h1, h2⟩ := hg.a i u hu
    refine ⟨h1, trivial, by simpa using h2, ?_⟩
    obtain ⟨z, _, rfl⟩ := List.mem_map.1 (List.mem_of_getElem? hu)
    exact fun ι => by simp
theorem below_words {tab : Nat → Option Value} {w0 w : World} {ι : Ren} {μ : Hp} {ng : Nat} (h : Sim (Prot.words tab) w0 ng ι μ w) : Below w0.heap.size w0 w :=
  ⟨h.os, h.tape, h.output, h.size, fun k hk => h.prot k hk trivial⟩
/-- New words at new names. -/
theorem sim_more {pr : Prot} {w0 w : World} {ng : Nat} {ι : Ren} {μ : Hp} (h : Sim pr w0 ng ι μ w) (vs : List Value) (k : Nat) (hl : μ.next + k ≤ limit) :
    ∃ ι', Ext μ.next ι ι' ∧ (∀ i, ι'.opq (μ.next + i) = vs[i]?) ∧ Sim pr w0 ng ι' { μ with next := μ.next + k } w := by
  have hx : Ext μ.next ι { ι with opq := fun n => if μ.next ≤ n then vs[n - μ.next]? else ι.opq n } := ⟨fun _ _ => rfl, fun _ _ => rfl, fun n hn => by simp [Nat.not_le.2 hn]⟩
  refine ⟨_, hx, fun i => by simp, ?_⟩
  exact {
    os := h.os, tape := h.tape, output := h.output, size := h.size, prot := h.prot
    lt := fun n o hg => Nat.lt_of_lt_of_le (h.lt n o hg) (Nat.le_add_right _ _)
    obj := fun n o hg => (h.obj n o hg).mono hx (Nat.le_add_right _ _) (h.lt n o hg) (fun _ => rfl)
    blk := h.blk, free := h.free, inj := h.inj, lim := hl
    glob := fun g hg => by
      obtain ⟨⟨h1, h2⟩, h3⟩ := h.glob g hg
      exact ⟨⟨h1, by simp only [Nat.not_le.2 h3, if_false]; exact h2⟩, Nat.lt_of_lt_of_le h3 (Nat.le_add_right _ _)⟩
    ro := h.ro }
theorem word {ι : Ren} {l : List Value} {i : Nat} {v : Value} (hi : ι.opq (9 + i) = tabV l (9 + i)) (hl : l[i]? = some v) (hv : okOpq v = true) : conc ι (.chan (some (9 + i))) = v := by
  rw [conc_chan]
  refine Ren.chan_some ?_ hv
  rw [hi]
  unfold tabV
  rw [if_pos (by omega), show 9 + i - 9 = i by omega]
  exact hl
theorem wordN {ι : Ren} {l : List Value} {n i : Nat} {v : Value} (hi : ∀ i, ι.opq (n + i) = l[i]?) (hl : l[i]? = some v) (hv : okOpq v = true) : conc ι (.chan (some (n + i))) = v := by
  rw [conc_chan]
  exact Ren.chan_some ((hi i).trans hl) hv
theorem conc_x {ι : Ren} {b1 b2 b3 b4 : Bool} {v0 v1 v2 v3 v4 v5 v6 v7 v8 v9 v12 v13 v14 v15 v16 v17 v18 v19 v20 v23 v24 v25 v26 v27 : Value} (h0 : okOpq v0 = true) (h1 : okOpq v1 = true) (h2 : okOpq v2 = true) (h3 : okOpq v3 = true) (h4 : okOpq v4 = true) (h5 : okOpq v5 = true) (h6 : okOpq v6 = true) (h7 : okOpq v7 = true) (h8 : okOpq v8 = true) (h9 : okOpq v9 = true) (h12 : okOpq v12 = true) (h13 : okOpq v13 = true) (h14 : okOpq v14 = true) (h15 : okOpq v15 = true) (h16 : okOpq v16 = true) (h17 : okOpq v17 = true) (h18 : okOpq v18 = true) (h19 : okOpq v19 = true) (h20 : okOpq v20 = true) (h23 : okOpq v23 = true) (h24 : okOpq v24 = true) (h25 : okOpq v25 = true) (h26 : okOpq v26 = true) (h27 : okOpq v27 = true) (hq : ∀ g, g < 37 → ι.opq g = tabV [v0, v1, v2, v3, v4, v5, v6, v7, v8, v9, .bool b1, .bool b2, v12, v13, v14, v15, v16, v17, v18, v19, v20, .bool b3, .bool b4, v23, v24, v25, v26, v27] g) :
    conc ι (xV b1 b2) = .agg #[v0, v1, v2, v3, v4, v5, v6, v7, v8, v9, .bool b1, .bool b2, v12, v13, v14, v15] := by
  unfold xV
  rw [conc_agg]
  congr 1
  apply Array.ext'
  simp only [Array.toList_map, List.map_cons, List.map_nil, conc_bool]
  rw [show conc ι (.chan (some 9)) = v0 from word (i := 0) (hq 9 (by decide)) rfl h0]
  rw [show conc ι (.chan (some 10)) = v1 from word (i := 1) (hq 10 (by decide)) rfl h1]
  rw [show conc ι (.chan (some 11)) = v2 from word (i := 2) (hq 11 (by decide)) rfl h2]
  rw [show conc ι (.chan (some 12)) = v3 from word (i := 3) (hq 12 (by decide)) rfl h3]
  rw [show conc ι (.chan (some 13)) = v4 from word (i := 4) (hq 13 (by decide)) rfl h4]
  rw [show conc ι (.chan (some 14)) = v5 from word (i := 5) (hq 14 (by decide)) rfl h5]
  rw [show conc ι (.chan (some 15)) = v6 from word (i := 6) (hq 15 (by decide)) rfl h6]
  rw [show conc ι (.chan (some 16)) = v7 from word (i := 7) (hq 16 (by decide)) rfl h7]
  rw [show conc ι (.chan (some 17)) = v8 from word (i := 8) (hq 17 (by decide)) rfl h8]
  rw [show conc ι (.chan (some 18)) = v9 from word (i := 9) (hq 18 (by decide)) rfl h9]
  rw [show conc ι (.chan (some 21)) = v12 from word (i := 12) (hq 21 (by decide)) rfl h12]
  rw [show conc ι (.chan (some 22)) = v13 from word (i := 13) (hq 22 (by decide)) rfl h13]
  rw [show conc ι (.chan (some 23)) = v14 from word (i := 14) (hq 23 (by decide)) rfl h14]
  rw [show conc ι (.chan (some 24)) = v15 from word (i := 15) (hq 24 (by decide)) rfl h15]
theorem conc_xr {ι : Ren} {b1 b2 b3 b4 : Bool} {v0 v1 v2 v3 v4 v5 v6 v7 v8 v9 v12 v13 v14 v15 v16 v17 v18 v19 v20 v23 v24 v25 v26 v27 : Value} (h0 : okOpq v0 = true) (h1 : okOpq v1 = true) (h2 : okOpq v2 = true) (h3 : okOpq v3 = true) (h4 : okOpq v4 = true) (h5 : okOpq v5 = true) (h6 : okOpq v6 = true) (h7 : okOpq v7 = true) (h8 : okOpq v8 = true) (h9 : okOpq v9 = true) (h12 : okOpq v12 = true) (h13 : okOpq v13 = true) (h14 : okOpq v14 = true) (h15 : okOpq v15 = true) (h16 : okOpq v16 = true) (h17 : okOpq v17 = true) (h18 : okOpq v18 = true) (h19 : okOpq v19 = true) (h20 : okOpq v20 = true) (h23 : okOpq v23 = true) (h24 : okOpq v24 = true) (h25 : okOpq v25 = true) (h26 : okOpq v26 = true) (h27 : okOpq v27 = true) (hq : ∀ g, g < 37 → ι.opq g = tabV [v0, v1, v2, v3, v4, v5, v6, v7, v8, v9, .bool b1, .bool b2, v12, v13, v14, v15, v16, v17, v18, v19, v20, .bool b3, .bool b4, v23, v24, v25, v26, v27] g) :
    conc ι (xrV b1 b2) = .agg #[v5, v6, v7, v8, v9, .bool b1, .bool b2, v12, v13, v14, v15] := by
  unfold xrV
  rw [conc_agg]
  congr 1
  apply Array.ext'
  simp only [Array.toList_map, List.map_cons, List.map_nil, conc_bool]
  rw [show conc ι (.chan (some 14)) = v5 from word (i := 5) (hq 14 (by decide)) rfl h5]
  rw [show conc ι (.chan (some 15)) = v6 from word (i := 6) (hq 15 (by decide)) rfl h6]
  rw [show conc ι (.chan (some 16)) = v7 from word (i := 7) (hq 16 (by decide)) rfl h7]
  rw [show conc ι (.chan (some 17)) = v8 from word (i := 8) (hq 17 (by decide)) rfl h8]
  rw [show conc ι (.chan (some 18)) = v9 from word (i := 9) (hq 18 (by decide)) rfl h9]
  rw [show conc ι (.chan (some 21)) = v12 from word (i := 12) (hq 21 (by decide)) rfl h12]
  rw [show conc ι (.chan (some 22)) = v13 from word (i := 13) (hq 22 (by decide)) rfl h13]
  rw [show conc ι (.chan (some 23)) = v14 from word (i := 14) (hq 23 (by decide)) rfl h14]
  rw [show conc ι (.chan (some 24)) = v15 from word (i := 15) (hq 24 (by decide)) rfl h15]
theorem conc_r {ι : Ren} {b1 b2 b3 b4 : Bool} {v0 v1 v2 v3 v4 v5 v6 v7 v8 v9 v12 v13 v14 v15 v16 v17 v18 v19 v20 v23 v24 v25 v26 v27 : Value} (h0 : okOpq v0 = true) (h1 : okOpq v1 = true) (h2 : okOpq v2 = true) (h3 : okOpq v3 = true) (h4 : okOpq v4 = true) (h5 : okOpq v5 = true) (h6 : okOpq v6 = true) (h7 : okOpq v7 = true) (h8 : okOpq v8 = true) (h9 : okOpq v9 = true) (h12 : okOpq v12 = true) (h13 : okOpq v13 = true) (h14 : okOpq v14 = true) (h15 : okOpq v15 = true) (h16 : okOpq v16 = true) (h17 : okOpq v17 = true) (h18 : okOpq v18 = true) (h19 : okOpq v19 = true) (h20 : okOpq v20 = true) (h23 : okOpq v23 = true) (h24 : okOpq v24 = true) (h25 : okOpq v25 = true) (h26 : okOpq v26 = true) (h27 : okOpq v27 = true) (hq : ∀ g, g < 37 → ι.opq g = tabV [v0, v1, v2, v3, v4, v5, v6, v7, v8, v9, .bool b1, .bool b2, v12, v13, v14, v15, v16, v17, v18, v19, v20, .bool b3, .bool b4, v23, v24, v25, v26, v27] g) :
    conc ι (rV b3 b4) = .agg #[v16, v17, v18, v19, v20, .bool b3, .bool b4, v23, v24, v25, v26] := by
  unfold rV
  rw [conc_agg]
  congr 1
  apply Array.ext'
  simp only [Array.toList_map, List.map_cons, List.map_nil, conc_bool]
  rw [show conc ι (.chan (some 25)) = v16 from word (i := 16) (hq 25 (by decide)) rfl h16]
  rw [show conc ι (.chan (some 26)) = v17 from word (i := 17) (hq 26 (by decide)) rfl h17]
  rw [show conc ι (.chan (some 27)) = v18 from word (i := 18) (hq 27 (by decide)) rfl h18]
  rw [show conc ι (.chan (some 28)) = v19 from word (i := 19) (hq 28 (by decide)) rfl h19]
  rw [show conc ι (.chan (some 29)) = v20 from word (i := 20) (hq 29 (by decide)) rfl h20]
  rw [show conc ι (.chan (some 32)) = v23 from word (i := 23) (hq 32 (by decide)) rfl h23]
  rw [show conc ι (.chan (some 33)) = v24 from word (i := 24) (hq 33 (by decide)) rfl h24]
  rw [show conc ι (.chan (some 34)) = v25 from word (i := 25) (hq 34 (by decide)) rfl h25]
  rw [show conc ι (.chan (some 35)) = v26 from word (i := 26) (hq 35 (by decide)) rfl h26]
theorem conc_n {ι : Ren} {b1 b2 b3 b4 : Bool} {v0 v1 v2 v3 v4 v5 v6 v7 v8 v9 v12 v13 v14 v15 v16 v17 v18 v19 v20 v23 v24 v25 v26 v27 : Value} (h0 : okOpq v0 = true) (h1 : okOpq v1 = true) (h2 : okOpq v2 = true) (h3 : okOpq v3 = true) (h4 : okOpq v4 = true) (h5 : okOpq v5 = true) (h6 : okOpq v6 = true) (h7 : okOpq v7 = true) (h8 : okOpq v8 = true) (h9 : okOpq v9 = true) (h12 : okOpq v12 = true) (h13 : okOpq v13 = true) (h14 : okOpq v14 = true) (h15 : okOpq v15 = true) (h16 : okOpq v16 = true) (h17 : okOpq v17 = true) (h18 : okOpq v18 = true) (h19 : okOpq v19 = true) (h20 : okOpq v20 = true) (h23 : okOpq v23 = true) (h24 : okOpq v24 = true) (h25 : okOpq v25 = true) (h26 : okOpq v26 = true) (h27 : okOpq v27 = true) (hq : ∀ g, g < 37 → ι.opq g = tabV [v0, v1, v2, v3, v4, v5, v6, v7, v8, v9, .bool b1, .bool b2, v12, v13, v14, v15, v16, v17, v18, v19, v20, .bool b3, .bool b4, v23, v24, v25, v26, v27] g) : conc ι nV = v27 := word (i := 27) (hq 36 (by decide)) rfl h27
theorem conc_xN {ι : Ren} {n : Nat} {c1 c2 : Bool} {u0 u1 u2 u3 u4 u5 u6 u7 u8 u9 u12 u13 u14 u15 : Value} (h0 : okOpq u0 = true) (h1 : okOpq u1 = true) (h2 : okOpq u2 = true) (h3 : okOpq u3 = true) (h4 : okOpq u4 = true) (h5 : okOpq u5 = true) (h6 : okOpq u6 = true) (h7 : okOpq u7 = true) (h8 : okOpq u8 = true) (h9 : okOpq u9 = true) (h12 : okOpq u12 = true) (h13 : okOpq u13 = true) (h14 : okOpq u14 = true) (h15 : okOpq u15 = true) (hq : ∀ i, ι.opq (n + i) = [u0, u1, u2, u3, u4, u5, u6, u7, u8, u9, .bool c1, .bool c2, u12, u13, u14, u15][i]?) :
    conc ι (xN n c1 c2) = .agg #[u0, u1, u2, u3, u4, u5, u6, u7, u8, u9, .bool c1, .bool c2, u12, u13, u14, u15] := by
  unfold xN
  rw [conc_agg]
  congr 1
  apply Array.ext'
  simp only [Array.toList_map, List.map_cons, List.map_nil, conc_bool]
  rw [show conc ι (.chan (some (n + 0))) = u0 from wordN (i := 0) hq rfl h0]
  rw [show conc ι (.chan (some (n + 1))) = u1 from wordN (i := 1) hq rfl h1]
  rw [show conc ι (.chan (some (n + 2))) = u2 from wordN (i := 2) hq rfl h2]
  rw [show conc ι (.chan (some (n + 3))) = u3 from wordN (i := 3) hq rfl h3]
  rw [show conc ι (.chan (some (n + 4))) = u4 from wordN (i := 4) hq rfl h4]
  rw [show conc ι (.chan (some (n + 5))) = u5 from wordN (i := 5) hq rfl h5]
  rw [show conc ι (.chan (some (n + 6))) = u6 from wordN (i := 6) hq rfl h6]
  rw [show conc ι (.chan (some (n + 7))) = u7 from wordN (i := 7) hq rfl h7]
  rw [show conc ι (.chan (some (n + 8))) = u8 from wordN (i := 8) hq rfl h8]
  rw [show conc ι (.chan (some (n + 9))) = u9 from wordN (i := 9) hq rfl h9]
  rw [show conc ι (.chan (some (n + 12))) = u12 from wordN (i := 12) hq rfl h12]
  rw [show conc ι (.chan (some (n + 13))) = u13 from wordN (i := 13) hq rfl h13]
  rw [show conc ι (.chan (some (n + 14))) = u14 from wordN (i := 14) hq rfl h14]
  rw [show conc ι (.chan (some (n + 15))) = u15 from wordN (i := 15) hq rfl h15]
theorem conc_rN {ι : Ren} {n : Nat} {c1 c2 : Bool} {u0 u1 u2 u3 u4 u7 u8 u9 u10 : Value} (h0 : okOpq u0 = true) (h1 : okOpq u1 = true) (h2 : okOpq u2 = true) (h3 : okOpq u3 = true) (h4 : okOpq u4 = true) (h7 : okOpq u7 = true) (h8 : okOpq u8 = true) (h9 : okOpq u9 = true) (h10 : okOpq u10 = true) (hq : ∀ i, ι.opq (n + i) = [u0, u1, u2, u3, u4, .bool c1, .bool c2, u7, u8, u9, u10][i]?) :
    conc ι (rN n c1 c2) = .agg #[u0, u1, u2, u3, u4, .bool c1, .bool c2, u7, u8, u9, u10] := by
  unfold rN
  rw [conc_agg]
  congr 1
  apply Array.ext'
  simp only [Array.toList_map, List.map_cons, List.map_nil, conc_bool]
  rw [show conc ι (.chan (some (n + 0))) = u0 from wordN (i := 0) hq rfl h0]
  rw [show conc ι (.chan (some (n + 1))) = u1 from wordN (i := 1) hq rfl h1]
  rw [show conc ι (.chan (some (n + 2))) = u2 from wordN (i := 2) hq rfl h2]
  rw [show conc ι (.chan (some (n + 3))) = u3 from wordN (i := 3) hq rfl h3]
  rw [show conc ι (.chan (some (n + 4))) = u4 from wordN (i := 4) hq rfl h4]
  rw [show conc ι (.chan (some (n + 7))) = u7 from wordN (i := 7) hq rfl h7]
  rw [show conc ι (.chan (some (n + 8))) = u8 from wordN (i := 8) hq rfl h8]
  rw [show conc ι (.chan (some (n + 9))) = u9 from wordN (i := 9) hq rfl h9]
  rw [show conc ι (.chan (some (n + 10))) = u10 from wordN (i := 10) hq rfl h10]
end Go.Proofs.YtffmfjkfjpblaaaGreatDoor
