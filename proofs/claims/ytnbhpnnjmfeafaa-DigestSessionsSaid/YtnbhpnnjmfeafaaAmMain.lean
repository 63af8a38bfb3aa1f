/-
  The abstract machine's code and calls are the program's.
-/
import Derived.Test.YtnbhpnnjmfeafaaAmDrawn
import Derived.LoopN
import Derived.Scope
namespace Go.Abs
set_option linter.unusedVariables false
set_option linter.unusedSimpArgs false
set_option linter.unusedSectionVars false

section
variable {P : Program} {E : Env} {pr : Nat → Prop} {w0 : World} (hE : EnvOk P E) (hmix : P.follows .mixedOrders = true)

def CodeOk (P : Program) (pr : Nat → Prop) (w0 : World) (ng : Nat) (rc : CodeF) : Prop :=
  ∀ c fr μ e fr' μ', rc c fr μ = some (e, fr', μ') → ∀ ι w a Q, Sim pr w0 ng ι μ w → FrRel ι μ.next fr a → Goal pr w0 ng ι μ Q e fr' μ' → c.wp P Q a w
abbrev Sums := FuncId → Option (List Value → Hp → Option (Ending × Hp))
def SumsOk (P : Program) (pr : Nat → Prop) (w0 : World) (ng : Nat) (S : Sums) : Prop :=
  ∀ f s, S f = some s → ∀ args μ e μ', s args μ = some (e, μ') → ∀ ι w, Sim pr w0 ng ι μ w → (∀ x ∈ args, Bd μ.next x) →
    Calls P f (args.map (conc ι)).toArray w fun e' w' => ∃ ι', Ext μ.next ι ι' ∧ μ.next ≤ μ'.next ∧ Sim pr w0 ng ι' μ' w' ∧ EndRel ι' μ'.next e e'

theorem fillArgs_get : ∀ (args : List Value) (i : Nat) (t : Tr Value) (k : Nat), i + args.length < limit → (fillArgs args i t).get k = if i ≤ k ∧ k < i + args.length then args[k - i]? else t.get k
  | [], i, t, k, h => by simp [fillArgs]; intro h1 h2; omega
  | v :: vs, i, t, k, h => by
    simp only [List.length_cons] at h
    simp only [fillArgs, fillArgs_get vs (i + 1) _ k (by omega), List.length_cons]
    by_cases hk : k = i
    · subst hk
      rw [if_neg (by omega), if_pos (by omega), Tr.get_set_same 40 _ _ _ (by unfold limit at h; omega)]
      simp
    · rw [Tr.get_set_other 40 _ _ _ _ (Ne.symm hk)]
      by_cases hin : i + 1 ≤ k ∧ k < i + 1 + vs.length
      · rw [if_pos hin, if_pos (by omega), show k - i = (k - (i + 1)) + 1 by omega]; simp
      · rw [if_neg hin, if_neg (by omega)]

theorem enter_ok {ι : Ren} {N : Nat} {fn : Func} {args : List Value} {fr : Fr} (h : Fr.enter fn args = some fr) (hb : ∀ x ∈ args, Bd N x) :
    FrRel ι N fr { tmps := (args.map (conc ι)).toArray ++ Array.replicate (fn.ntmps - (args.map (conc ι)).toArray.size) undef, defers := [] } := by
  unfold Fr.enter at h
  cases hc : (Nat.ble args.length fn.ntmps && Nat.blt fn.ntmps limit) with
  | false => simp [hc] at h
  | true =>
    simp [hc] at h
    subst h
    simp only [Bool.and_eq_true] at hc
    have h1 := Nat.le_of_ble_eq_true hc.1
    have h2 : fn.ntmps < limit := by have := hc.2; simpa [Nat.blt_eq] using this
    refine ⟨by simp; omega, h2, fun t => ?_, rfl, by simp⟩
    have hg : ({ t := fillArgs args 0 .e, sz := fn.ntmps, df := [] } : Fr).get t = (args[t]?).getD undef := by
      simp only [Fr.get, fillArgs_get args 0 .e t (by omega), Nat.zero_le, true_and, Nat.zero_add, Nat.sub_zero]
      split
      · rfl
      · rename_i hlt
        rw [List.getElem?_eq_none (by omega)]
        rfl
    rw [hg]
    rcases Nat.lt_or_ge t args.length with hlt | hge
    · have hm : args[t]? = some args[t] := List.getElem?_eq_getElem hlt
      rw [hm]
      refine ⟨?_, hb _ (List.getElem_mem hlt)⟩
      simp [Array.getD_eq_getD_getElem?, Array.getElem?_append, hlt]
    · rw [List.getElem?_eq_none hge]
      refine ⟨?_, by simp⟩
      simp only [Option.getD_none, conc_undef]
      simp [Array.getD_eq_getD_getElem?, Array.getElem?_append, Nat.not_lt.2 hge, Array.getElem?_replicate]
      split <;> rfl

def resF (tmps : Array Value) (r : ResultVar) : Sem Value :=
  match r with
  | .tmp t => pure (tmps.getD t undef)
  | .cell p t => do loadVar t (← asAddr (tmps.getD p undef))
theorem results_eq (fn : Func) (tmps : Array Value) : results fn tmps = (do
    let vs ← fn.results.mapM (resF tmps)
    pure (if h : vs.size = 1 then vs[0] else .tuple vs)) := by
  unfold results
  congr 2

include hE
theorem results_ok {ι : Ren} {μ : Hp} {w : World} {fr : Fr} {a : Act} (hS : Sim pr w0 E.ng ι μ w) (hF : FrRel ι μ.next fr a) {fn : Func} {vs : List Value} (h : resultsA E fr μ fn.results.toList = some vs) :
    (results fn a.tmps).run P w = .ok (conc ι (packed vs)) w ∧ Bd μ.next (packed vs) := by
  have key : ∀ (l : List ResultVar) (vs : List Value), resultsA E fr μ l = some vs → (l.mapM (resF a.tmps)).run P w = .ok (vs.map (conc ι)) w ∧ ∀ v ∈ vs, Bd μ.next v := by
    intro l
    induction l with
    | nil => intro vs h; simp [resultsA] at h; subst h; simp
    | cons r rest ih =>
      intro vs h
      cases r with
      | tmp t =>
        simp only [resultsA, Option.map_eq_some_iff] at h
        obtain ⟨vs', h', rfl⟩ := h
        obtain ⟨h1, h2⟩ := ih vs' h'
        obtain ⟨h3, h4⟩ := hF.tmp t
        refine ⟨?_, ?_⟩
        · simp only [List.mapM_cons, Sem.run_bind, resF, Sem.run_pure, Result.andThen_ok, h1, h3, List.map_cons]
        · intro v hv
          rcases List.mem_cons.1 hv with rfl | hv
          · exact h4
          · exact h2 v hv
      | cell p t =>
        simp only [resultsA] at h
        obtain ⟨h3, h4⟩ := hF.tmp p
        split at h
        · rename_i ad had
          cases hl : loadA E t ad μ with
          | none => simp [hl] at h
          | some v =>
            cases hr : resultsA E fr μ rest with
            | none => simp [hl, hr] at h
            | some vs' =>
              simp [hl, hr] at h
              subst h
              obtain ⟨h1, h2⟩ := ih vs' hr
              obtain ⟨g1, g2⟩ := load_ok hE hS hl
              rw [had, conc_ptr] at h3
              have g3 : (loadVar t (ι.addr ad)).run P w = .ok (conc ι v) w := g1
              have g4 : (resF a.tmps (.cell p t)).run P w = .ok (conc ι v) w := by
                simp only [resF, h3, asAddr, pure_bind]
                exact g3
              refine ⟨?_, ?_⟩
              · simp only [List.mapM_cons, Sem.run_bind, g4, Sem.run_pure, Result.andThen_ok, h1, List.map_cons]
              · intro v' hv
                rcases List.mem_cons.1 hv with rfl | hv
                · exact g2
                · exact h2 v' hv
        · cases h
  obtain ⟨h1, h2⟩ := key _ _ h
  have h3 : (fn.results.mapM (resF a.tmps)).run P w = .ok (vs.map (conc ι)).toArray w := by
    rw [Array.mapM_eq_mapM_toList]
    simp only [Sem.run_map, h1, Result.andThen_ok]
  refine ⟨?_, ?_⟩
  · rw [results_eq]
    simp only [Sem.run_bind, h3, Result.andThen_ok, Sem.run_pure]
    congr 1
    match vs with
    | [] => simp [packed]
    | [v] => simp [packed]
    | v :: u :: r => simp [packed]
  · match vs, h2 with
    | [], _ => simp [packed]
    | [v], h2 => exact h2 v (by simp)
    | v :: u :: r, h2 => simp only [packed, Bd_tuple]; intro x hx; exact h2 x (by simpa using hx)

theorem leave_ok {fn : Func} {c : Code} {f : FuncId} {ι : Ren} {μ : Hp} {w : World} {args : List Value} {fr : Fr} {rc : CodeF} (hrc : CodeOk P pr w0 E.ng rc) (hf : E.fn f = some fn) (hc : fn.body = some c)
    (hS : Sim pr w0 E.ng ι μ w) (hb : ∀ x ∈ args, Bd μ.next x) (hen : Fr.enter fn args = some fr) {e : Ending} {μ' : Hp} (h : leaveA E fn (rc c fr μ) = some (e, μ')) :
    Calls P f (args.map (conc ι)).toArray w fun e' w' => ∃ ι', Ext μ.next ι ι' ∧ μ.next ≤ μ'.next ∧ Sim pr w0 E.ng ι' μ' w' ∧ EndRel ι' μ'.next e e' := by
  have hfn := (hE.fn f fn hf).1
  have hfr := enter_ok (ι := ι) hen hb
  refine calls_of_wp hfn hc ?_
  cases hr : rc c fr μ with
  | none => rw [hr] at h; simp [leaveA] at h
  | some q =>
    obtain ⟨ex, fr', μ1⟩ := q
    rw [hr] at h
    refine hrc c fr μ ex fr' μ1 hr ι w _ _ hS hfr ?_
    have fin : ∀ (k : Exit), (k = .normal ∨ k = .ret) → leaveA E fn (some (k, fr', μ1)) = some (e, μ') → Goal pr w0 E.ng ι μ (bodyPost P fn fun e' w' => ∃ ι', Ext μ.next ι ι' ∧ μ.next ≤ μ'.next ∧ Sim pr w0 E.ng ι' μ' w' ∧ EndRel ι' μ'.next e e') k fr' μ1 := by
      intro k hk h
      have h' : (match fr'.df with
        | [] => match resultsA E fr' μ1 fn.results.toList with
          | some vs => some (Ending.returned (packed vs), μ1)
          | none => none
        | _ :: _ => none) = some (e, μ') := by rcases hk with rfl | rfl <;> exact h
      cases hd : fr'.df with
      | cons d ds => rw [hd] at h'; cases h'
      | nil =>
        rw [hd] at h'
        cases hvs : resultsA E fr' μ1 fn.results.toList with
        | none => simp [hvs] at h'
        | some vs =>
          simp [hvs] at h'
          obtain ⟨rfl, rfl⟩ := h'
          have main : ∀ ι' a' w', Ext μ.next ι ι' → μ.next ≤ μ1.next → Sim pr w0 E.ng ι' μ1 w' → FrRel ι' μ1.next fr' a' → a'.defers = [] ∧ ∃ v, (results fn a'.tmps).run P w' = .ok v w' ∧
              ∃ ι', Ext μ.next ι ι' ∧ μ.next ≤ μ1.next ∧ Sim pr w0 E.ng ι' μ1 w' ∧ EndRel ι' μ1.next (.returned (packed vs)) (.returned v) := by
            intro ι' a' w' hx hl hS' hF'
            obtain ⟨h1, h2⟩ := results_ok hE hS' hF' hvs
            exact ⟨by rw [hF'.df, hd]; rfl, _, h1, ι', hx, hl, hS', rfl, h2⟩
          rcases hk with rfl | rfl <;> exact main
    cases ex with
    | normal => exact fin .normal (.inl rfl) h
    | ret => exact fin .ret (.inr rfl) h
    | panic ch =>
      simp only [leaveA] at h
      cases hd : fr'.df with
      | cons d ds => rw [hd] at h; cases h
      | nil =>
        rw [hd] at h
        simp at h
        obtain ⟨rfl, rfl⟩ := h
        intro ι' a' w' hx hl hS' hF' hbp
        exact ⟨by rw [hF'.df, hd]; rfl, ι', hx, hl, hS', rfl, hbp⟩
    | exit id => simp [leaveA] at h
    | goto l => simp [leaveA] at h
    | outgrown => simp [leaveA] at h

theorem callA_ok {S : Sums} {rc : CodeF} (hSm : SumsOk P pr w0 E.ng S) (hrc : CodeOk P pr w0 E.ng rc) : CallsOk P pr w0 E.ng (callA E S rc) := by
  intro f args μ e μ' h ι w hS hb
  unfold callA at h
  cases hs : S f with
  | some s =>
    simp only [hs] at h
    exact hSm f s hs args μ e μ' h ι w hS hb
  | none =>
    simp only [hs] at h
    cases hf : E.fn f with
    | none => simp [hf] at h
    | some fn =>
      simp only [hf] at h
      cases hc : fn.body with
      | none => simp [hc] at h
      | some c =>
        cases hen : Fr.enter fn args with
        | none => simp [hc, hen] at h
        | some fr =>
          simp only [hc, hen] at h
          exact leave_ok hE hrc hf hc hS hb hen h

omit hE in
theorem loop_ok {rc : CodeF} (hrc : CodeOk P pr w0 E.ng rc) (c : Code) : ∀ (n : Nat) {fr : Fr} {μ : Hp} {e : Exit} {fr' : Fr} {μ' : Hp}, loopA rc c n fr μ = some (e, fr', μ') → ∀ {ι : Ren} {w : World} {a : Act} {Q : Exit → Act → World → Prop},
    Sim pr w0 E.ng ι μ w → FrRel ι μ.next fr a → Goal pr w0 E.ng ι μ Q e fr' μ' → Code.rounds P c Q n a w := by
  intro n
  induction n with
  | zero => intro fr μ e fr' μ' h; simp [loopA] at h
  | succ n ih =>
    intro fr μ e fr' μ' h ι w a Q hS hF hG
    simp only [loopA] at h
    cases hr : rc c fr μ with
    | none => simp [hr] at h
    | some q =>
      obtain ⟨e1, fr1, μ1⟩ := q
      refine hrc c fr μ e1 fr1 μ1 hr ι w a _ hS hF ?_
      cases e1 with
      | normal =>
        simp only [hr] at h
        intro ι' a' w' hx hl hS' hF'
        exact ih h hS' hF' (hG.weaken hx hl)
      | _ =>
        simp only [hr, Option.some.injEq, Prod.mk.injEq] at h
        obtain ⟨rfl, rfl, rfl⟩ := h
        exact hG

include hmix in
theorem codeStep_ok {S : Sums} {rc : CodeF} (hSm : SumsOk P pr w0 E.ng S) (hrc : CodeOk P pr w0 E.ng rc) : CodeOk P pr w0 E.ng (codeStep P E S rc) := by
  intro c fr μ e fr' μ' h ι w a Q hS hF hG
  have hC := callA_ok hE hSm hrc
  cases c with
  | skip => simp [codeStep] at h; obtain ⟨rfl, rfl, rfl⟩ := h; exact wp_skip (hG ι a w (Ext.refl _ _) (Nat.le_refl _) hS hF)
  | label l => simp [codeStep] at h; obtain ⟨rfl, rfl, rfl⟩ := h; exact wp_label (hG ι a w (Ext.refl _ _) (Nat.le_refl _) hS hF)
  | exit id => simp [codeStep] at h; obtain ⟨rfl, rfl, rfl⟩ := h; exact wp_exit (hG ι a w (Ext.refl _ _) (Nat.le_refl _) hS hF)
  | ret => simp [codeStep] at h; obtain ⟨rfl, rfl, rfl⟩ := h; exact wp_ret (hG ι a w (Ext.refl _ _) (Nat.le_refl _) hS hF)
  | goto l => simp [codeStep] at h
  | refuse y => simp [codeStep] at h
  | rangeFunc f ps x y => simp [codeStep] at h
  | region id ops draw =>
    cases draw with
    | false =>
      simp only [codeStep] at h
      refine wp_region ?_
      have hlen : List.range ops.size = List.range' 0 ops.toList.length := by simp [List.range_eq_range']
      rw [hlen]
      refine reg_ok hE hC ops ops.toList 0 (by simp) hS hF ?_
      cases hr : regA P E (callA E S rc) ops ops.toList fr μ with
      | ok f1 m1 => simp [hr] at h; obtain ⟨rfl, rfl, rfl⟩ := h; exact hG
      | pan ch f1 m1 => simp [hr] at h; obtain ⟨rfl, rfl, rfl⟩ := h; exact hG
      | no => simp [hr] at h
    | true =>
      simp only [codeStep] at h
      cases hr : drawnA P E (callA E S rc) ops fr μ with
      | none => simp [hr] at h
      | some q =>
        obtain ⟨f1, m1⟩ := q
        simp [hr] at h
        obtain ⟨rfl, rfl, rfl⟩ := h
        exact wp_region_any hmix (drawn_ok hE hC hr hS.drew hF hG)
  | seq x y =>
    simp only [codeStep] at h
    refine wp_seq ?_
    cases hr : rc x fr μ with
    | none => simp [hr] at h
    | some q =>
      obtain ⟨e1, fr1, μ1⟩ := q
      refine hrc x fr μ e1 fr1 μ1 hr ι w a _ hS hF ?_
      cases e1 with
      | normal =>
        simp only [hr] at h
        intro ι' a' w' hx hl hS' hF'
        exact hrc y fr1 μ1 e fr' μ' h ι' w' a' Q hS' hF' (hG.weaken hx hl)
      | _ =>
        simp only [hr, Option.some.injEq, Prod.mk.injEq] at h
        obtain ⟨rfl, rfl, rfl⟩ := h
        exact hG
  | cond x y z =>
    simp only [codeStep] at h
    cases ho : okOpnd E x with
    | false => simp [ho] at h
    | true =>
      simp only [ho, cond_true] at h
      have hev := (ev_ok hS hF x ho).1
      split at h
      · rename_i hb
        rw [hb, conc_bool] at hev
        exact wp_cond_true hev (hrc y fr μ e fr' μ' h ι w a Q hS hF hG)
      · rename_i hb
        rw [hb, conc_bool] at hev
        exact wp_cond_false hev (hrc z fr μ e fr' μ' h ι w a Q hS hF hG)
      · cases h
  | block id x =>
    simp only [codeStep] at h
    refine wp_block ?_
    cases hr : rc x fr μ with
    | none => simp [hr] at h
    | some q =>
      obtain ⟨e1, fr1, μ1⟩ := q
      refine hrc x fr μ e1 fr1 μ1 hr ι w a _ hS hF ?_
      cases e1 with
      | exit id' =>
        simp only [hr] at h
        cases hid : Nat.beq id' id with
        | true =>
          simp [hid] at h
          obtain ⟨rfl, rfl, rfl⟩ := h
          have := beq_yes hid
          intro ι' a' w' hx hl hS' hF'
          simp only [Exit.inBlock, this, if_true]
          exact hG ι' a' w' hx hl hS' hF'
        | false =>
          simp [hid] at h
          obtain ⟨rfl, rfl, rfl⟩ := h
          have := Nat.ne_of_beq_eq_false hid
          intro ι' a' w' hx hl hS' hF'
          simp only [Exit.inBlock, if_neg this]
          exact hG ι' a' w' hx hl hS' hF'
      | _ =>
        simp only [hr, Option.some.injEq, Prod.mk.injEq] at h
        obtain ⟨rfl, rfl, rfl⟩ := h
        exact hG
  | scope x =>
    simp only [codeStep] at h
    refine wp_scope_straight ?_
    cases hr : rc x fr μ with
    | none => simp [hr] at h
    | some q =>
      obtain ⟨e1, fr1, μ1⟩ := q
      refine hrc x fr μ e1 fr1 μ1 hr ι w a _ hS hF ?_
      cases e1 with
      | goto l => simp [hr] at h
      | _ =>
        simp only [hr, Option.some.injEq, Prod.mk.injEq] at h
        obtain ⟨rfl, rfl, rfl⟩ := h
        exact hG
  | loop x =>
    simp only [codeStep] at h
    exact wp_loop_rounds mostRounds (loop_ok hrc x mostRounds h hS hF hG)

include hmix in
theorem codeA_ok {S : Sums} (hSm : SumsOk P pr w0 E.ng S) : ∀ n, CodeOk P pr w0 E.ng (codeA P E S n)
  | 0 => by intro c fr μ e fr' μ' h; simp [codeA] at h
  | n + 1 => codeStep_ok hE hmix hSm (codeA_ok hSm n)

include hmix in
/-- WHAT THE ABSTRACT MACHINE COMES TO, EVERY RUN OF THE PROGRAM COMES TO. -/
theorem run_ok {S : Sums} (hSm : SumsOk P pr w0 E.ng S) (n : Nat) : CallsOk P pr w0 E.ng (run P E S n) := callA_ok hE hSm (codeA_ok hE hmix hSm n)
end
end Go.Abs
