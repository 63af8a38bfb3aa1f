/-
  The abstract machine's code is the program's: frames, regions in the order of the text.
-/
import Derived.Test.YtnbhpnnjmfeafaaAmOp
namespace Go.Abs
set_option linter.unusedVariables false
set_option linter.unusedSimpArgs false
set_option linter.unusedSectionVars false

def concP (ι : Ren) (e : PanicEntry) : PanicEntry := { e with v := conc ι e.v }

structure FrRel (ι : Ren) (N : Nat) (fr : Fr) (a : Act) : Prop where
  size : a.tmps.size = fr.sz
  lim : fr.sz < limit
  tmp : ∀ t, a.tmps.getD t undef = conc ι (fr.get t) ∧ Bd N (fr.get t)
  df : a.defers = fr.df.map (concD ι)
  bd : ∀ d ∈ fr.df, BdD N d

theorem concD_ext {N : Nat} {ι ι' : Ren} (h : Ext N ι ι') {d : Deferred} (hb : BdD N d) : concD ι' d = concD ι d := by
  obtain ⟨t, as⟩ := d
  obtain ⟨h1, h2⟩ := hb
  simp only at h1 h2
  unfold concD
  simp only
  congr 1
  · cases t with
    | fn f c => simp only at h2 ⊢; rw [Array.map_congr_left fun x hx => conc_ext h x (h2 x hx)]
    | _ => rfl
  · exact Array.map_congr_left fun x hx => conc_ext h x (h1 x hx)
theorem BdD.mono {N M : Nat} (hl : N ≤ M) {d : Deferred} (hb : BdD N d) : BdD M d := by
  obtain ⟨t, as⟩ := d
  obtain ⟨h1, h2⟩ := hb
  refine ⟨fun x hx => Bd.mono hl x (h1 x hx), ?_⟩
  cases t with
  | fn f c => exact fun x hx => Bd.mono hl x (h2 x hx)
  | collected r => exact h2
  | _ => trivial

section
variable {ι ι' : Ren} {N N' : Nat} {fr fr' : Fr} {a : Act}
theorem FrRel.mono (h : FrRel ι N fr a) (hE : Ext N ι ι') (hN : N ≤ N') : FrRel ι' N' fr a := by
  refine ⟨h.size, h.lim, fun t => ?_, ?_, fun d hd => BdD.mono hN (h.bd d hd)⟩
  · obtain ⟨h1, h2⟩ := h.tmp t
    exact ⟨by rw [conc_ext hE _ h2]; exact h1, Bd.mono hN _ h2⟩
  · rw [h.df]
    exact List.map_congr_left fun d hd => (concD_ext hE (h.bd d hd)).symm
theorem get_set {fr : Fr} {d : Nat} {v : Value} (hd : d < limit) (t : Nat) : (fr.set d v).get t = if t = d then v else fr.get t := by
  unfold Fr.set Fr.get
  by_cases h : t = d
  · subst h
    rw [if_pos rfl, Tr.get_set_same 40 _ _ _ (by unfold limit at hd; omega)]
    rfl
  · rw [if_neg h, Tr.get_set_other 40 _ _ _ _ (Ne.symm h)]
theorem FrRel.put (h : FrRel ι N fr a) {dst : Option Tmp} {v : Value} (hp : fr.put dst v = some fr') (hb : Bd N v) : FrRel ι N fr' (a.put dst (conc ι v)) := by
  unfold Fr.put at hp
  cases dst with
  | none => simp at hp; subst hp; exact h
  | some d =>
    simp only at hp
    cases hd : Nat.blt d fr.sz with
    | false => simp [hd] at hp
    | true =>
      simp [hd] at hp
      subst hp
      have hlt : d < fr.sz := by simpa [Nat.blt_eq] using hd
      have hdl : d < limit := Nat.lt_trans hlt h.lim
      refine ⟨by simp [Act.put, Fr.set, h.size], h.lim, fun t => ?_, h.df, h.bd⟩
      rw [get_set hdl]
      simp only [Act.put]
      by_cases ht : t = d
      · subst ht
        simp [Array.getD, h.size, hlt, hb]
      · obtain ⟨h1, h2⟩ := h.tmp t
        rw [if_neg ht]
        refine ⟨?_, h2⟩
        rw [← h1]
        simp [Array.getD_eq_getD_getElem?, Array.getElem?_setIfInBounds_ne (Ne.symm ht)]
theorem FrRel.defer (h : FrRel ι N fr a) {d : Deferred} (hb : BdD N d) : FrRel ι N { fr with df := d :: fr.df } { a with defers := concD ι d :: a.defers } :=
  ⟨h.size, h.lim, h.tmp, by simp [h.df], fun d' hd => by
    rcases List.mem_cons.1 hd with rfl | hd
    · exact hb
    · exact h.bd d' hd⟩
theorem conc_bool_iff {v : Value} {b : Bool} (h : conc ι v = .bool b) : v = .bool b := by
  match v, h with
  | .bool c, h => simpa using h
  | .pointer (some a), h | .slice (some a) _ _, h | .map (some r), h | .func _ _ _, h | .iface t u, h | .agg cs, h | .tuple cs, h => simp at h
  | .chan r, h => simp [conc] at h
  | .int _ _, h | .float _ _, h | .complex _ _ _, h | .string _, h | .pointer none, h | .slice none _ _, h | .map none, h | .nilFunc, h | .nilIface, h => simp at h
theorem wanted_eq (h : FrRel ι N fr a) (ops : Array Oper) (o : Oper) : Region.wanted o (yielded ops a.tmps) = wantedA ops fr o := by
  unfold Region.wanted wantedA
  cases o.guard with
  | none => rfl
  | some q =>
    obtain ⟨j, want⟩ := q
    simp only
    unfold yielded
    cases hd : (ops[j]?).bind (·.dst) with
    | none => rfl
    | some d =>
      simp only [Option.bind_some]
      obtain ⟨h1, h2⟩ := h.tmp d
      rcases Nat.lt_or_ge d a.tmps.size with hlt | hge
      · have hg : a.tmps[d]? = some (conc ι (fr.get d)) := by
          rw [Array.getElem?_eq_getElem hlt]
          simp [Array.getD, hlt] at h1
          rw [h1]
        rw [hg]
        cases hv : fr.get d with
        | bool b => cases b <;> cases want <;> simp
        | pointer x => cases x <;> simp
        | slice x l c => cases x <;> simp
        | map x => cases x <;> simp
        | chan x => simp [conc]
        | _ => simp
      · have hu : conc ι (fr.get d) = undef := by rw [← h1]; simp [Array.getD, Nat.not_lt.2 hge]
        rw [Array.getElem?_eq_none hge]
        cases hv : fr.get d with
        | bool b => rw [hv] at hu; simp [undef] at hu
        | _ => rfl
end

section
variable {P : Program} {E : Env} {pr : Nat → Prop} {w0 : World} {ι : Ren} {μ : Hp} {w : World} (hE : EnvOk P E)

theorem ev_ok (hS : Sim pr w0 E.ng ι μ w) {fr : Fr} {a : Act} (h : FrRel ι μ.next fr a) (x : Operand) (hx : okOpnd E x = true) : a.eval x = conc ι (fr.ev x) ∧ Bd μ.next (fr.ev x) := by
  cases x with
  | tmp t => exact h.tmp t
  | const v =>
    have := conc_plain ι μ.next 4 v hx
    exact ⟨this.1.symm, this.2⟩
  | global g =>
    simp only [okOpnd, Nat.blt_eq] at hx
    obtain ⟨h1, h2⟩ := hS.glob g hx
    refine ⟨?_, by simpa [Fr.ev] using h2⟩
    simp [Act.eval, Fr.ev, Ren.addr, h1]
  | func f => simp [Act.eval, Fr.ev]

def EndRel (ι : Ren) (N : Nat) : Ending → Ending → Prop
  | .returned v, .returned v' => v' = conc ι v ∧ Bd N v
  | .panicked ch, .panicked ch' => ch' = ch.map (concP ι) ∧ ∀ e ∈ ch, Bd N e.v
  | _, _ => False

/-- The abstract calls are the program's. -/
def CallsOk (P : Program) (pr : Nat → Prop) (w0 : World) (ng : Nat) (callF : CallF) : Prop :=
  ∀ f args μ e μ', callF f args μ = some (e, μ') → ∀ ι w, Sim pr w0 ng ι μ w → (∀ x ∈ args, Bd μ.next x) →
    Calls P f (args.map (conc ι)).toArray w fun e' w' => ∃ ι', Ext μ.next ι ι' ∧ μ.next ≤ μ'.next ∧ Sim pr w0 ng ι' μ' w' ∧ EndRel ι' μ'.next e e'

/-- What is to hold behind a piece of code that comes to this exit. -/
def Goal (pr : Nat → Prop) (w0 : World) (ng : Nat) (ι : Ren) (μ : Hp) (Q : Exit → Act → World → Prop) (e : Exit) (fr' : Fr) (μ' : Hp) : Prop :=
  match e with
  | .panic ch => ∀ ι' a' w', Ext μ.next ι ι' → μ.next ≤ μ'.next → Sim pr w0 ng ι' μ' w' → FrRel ι' μ'.next fr' a' → (∀ e ∈ ch, Bd μ'.next e.v) → Q (.panic (ch.map (concP ι'))) a' w'
  | e => ∀ ι' a' w', Ext μ.next ι ι' → μ.next ≤ μ'.next → Sim pr w0 ng ι' μ' w' → FrRel ι' μ'.next fr' a' → Q e a' w'
theorem Goal.weaken {ng : Nat} {Q : Exit → Act → World → Prop} {e : Exit} {fr' : Fr} {μ' μ1 : Hp} {ι1 : Ren} (h : Goal pr w0 ng ι μ Q e fr' μ') (hE : Ext μ.next ι ι1) (hl : μ.next ≤ μ1.next) : Goal pr w0 ng ι1 μ1 Q e fr' μ' := by
  cases e with
  | panic ch => exact fun ι' a' w' h1 h2 h3 h4 h5 => h ι' a' w' (hE.trans h1 hl) (by omega) h3 h4 h5
  | _ => exact fun ι' a' w' h1 h2 h3 h4 => h ι' a' w' (hE.trans h1 hl) (by omega) h3 h4

def RGoal (pr : Nat → Prop) (w0 : World) (ng : Nat) (ι : Ren) (μ : Hp) (Q : Exit → Act → World → Prop) : RR → Prop
  | .ok fr' μ' => Goal pr w0 ng ι μ Q .normal fr' μ'
  | .pan ch fr' μ' => Goal pr w0 ng ι μ Q (.panic ch) fr' μ'
  | .no => False
theorem RGoal.weaken {ng : Nat} {Q : Exit → Act → World → Prop} {r : RR} {μ1 : Hp} {ι1 : Ren} (h : RGoal pr w0 ng ι μ Q r) (hE : Ext μ.next ι ι1) (hl : μ.next ≤ μ1.next) : RGoal pr w0 ng ι1 μ1 Q r := by
  cases r with
  | ok fr' μ' => exact Goal.weaken (show Goal pr w0 ng ι μ Q .normal fr' μ' from h) hE hl
  | pan ch fr' μ' => exact Goal.weaken (show Goal pr w0 ng ι μ Q (.panic ch) fr' μ' from h) hE hl
  | no => exact h

include hE
theorem reg_ok {callF : CallF} (hC : CallsOk P pr w0 E.ng callF) (ops : Array Oper) {Q : Exit → Act → World → Prop} : ∀ (l : List Oper) (k : Nat), ops.toList.drop k = l → ∀ {ι : Ren} {μ : Hp} {w : World} {fr : Fr} {a : Act},
    Sim pr w0 E.ng ι μ w → FrRel ι μ.next fr a → RGoal pr w0 E.ng ι μ Q (regA P E callF ops l fr μ) → wpOps P ops Q (List.range' k l.length) a w := by
  intro l
  induction l with
  | nil =>
    intro k hk ι μ w fr a hS hF hG
    exact hG ι a w (Ext.refl _ _) (Nat.le_refl _) hS hF
  | cons o rest ih =>
    intro k hk ι μ w fr a hS hF hG
    have ho : ops[k]? = some o := by
      have h0 : (ops.toList.drop k)[0]? = some o := by rw [hk]; rfl
      rw [List.getElem?_drop] at h0
      simpa using h0
    have hk' : ops.toList.drop (k + 1) = rest := by
      have := congrArg (List.drop 1) hk
      simpa [List.drop_drop] using this
    simp only [List.length_cons, List.range'_succ, wpOps, ho, wanted_eq hF]
    simp only [regA] at hG
    cases hw : wantedA ops fr o with
    | false =>
      simp only [hw, Bool.false_eq_true, if_false] at hG ⊢
      cases hp : fr.put o.dst undef with
      | none => rw [hp] at hG; exact hG.elim
      | some fr' =>
        rw [hp] at hG
        have := hF.put hp (by simp)
        rw [conc_undef] at this
        exact ih (k + 1) hk' hS this hG
    | true =>
      simp only [hw, if_true] at hG ⊢
      left
      have hrel := op_rel (ng := E.ng) hE hS o a.eval fr.ev (fun x _ hx => ev_ok hS hF x hx)
      unfold Oper.wp
      cases hop : opA P E fr.ev o μ with
      | no => simp only [hop] at hG; exact hG.elim
      | val v μ' =>
        simp only [hop] at hG hrel
        obtain ⟨ι', w', hr, hS', hx, hl, hb⟩ := hrel
        cases hp : fr.put o.dst v with
        | none => rw [hp] at hG; exact hG.elim
        | some fr' =>
          rw [hp] at hG
          have hF' := (hF.mono hx hl).put hp hb
          have hnext := ih (k + 1) hk' hS' hF' (hG.weaken hx hl)
          rcases hr with hr | ⟨hr, rfl⟩
          · rw [hr]; exact hnext
          · rw [hr]; rw [conc_undef] at hnext; exact hnext
      | dfr d μ' =>
        simp only [hop] at hG hrel
        obtain ⟨rfl, hr, hb⟩ := hrel
        rw [hr]
        cases hp : ({ fr with df := d :: fr.df } : Fr).put o.dst undef with
        | none => rw [hp] at hG; exact hG.elim
        | some fr' =>
          rw [hp] at hG
          have := (hF.defer hb).put hp (by simp)
          rw [conc_undef] at this
          exact ih (k + 1) hk' hS this hG
      | pan v μ' =>
        simp only [hop] at hG hrel
        obtain ⟨rfl, hr, hb⟩ := hrel
        rw [hr]
        have := hG ι a w (Ext.refl _ _) (Nat.le_refl _) hS hF (by simp; exact hb)
        simpa [concP, Oper.upon] using this
      | call f args μ' =>
        simp only [hop] at hG hrel
        obtain ⟨hμ, hr, hb⟩ := hrel
        subst hμ
        rw [hr]
        cases hc : callF f args μ' with
        | none => simp only [hc] at hG; exact hG.elim
        | some q =>
          obtain ⟨e, μ''⟩ := q
          simp only [hc] at hG
          refine (hC f args μ' e μ'' hc ι w hS hb).mono ?_
          rintro e' w' ⟨ι', hx, hl, hS', hend⟩
          cases e with
          | returned v =>
            cases e' with
            | returned v' =>
              obtain ⟨rfl, hbv⟩ := hend
              simp only at hG ⊢
              cases hp : fr.put o.dst v with
              | none => rw [hp] at hG; exact hG.elim
              | some fr' =>
                rw [hp] at hG
                exact ih (k + 1) hk' hS' ((hF.mono hx hl).put hp hbv) (hG.weaken hx hl)
            | _ => exact hend.elim
          | panicked ch =>
            cases e' with
            | panicked ch' =>
              obtain ⟨rfl, hbv⟩ := hend
              simp only at hG ⊢
              exact hG ι' a w' hx hl hS' (hF.mono hx hl) hbv
            | _ => exact hend.elim
          | outgrown => cases e' <;> exact hend.elim
end
end Go.Abs
