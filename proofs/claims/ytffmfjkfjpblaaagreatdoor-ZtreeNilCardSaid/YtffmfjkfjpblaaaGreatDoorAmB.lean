/-
  The abstract machine, part B: a computable interpreter over abstract heaps, and that it is right of the model's runs.
-/
import Derived.Test.YtffmfjkfjpblaaaGreatDoorAmA
import Derived.LoopN
import Derived.Scope
import Derived.KernelRfl
import GoSem.ClaimJoined
import Derived.ChangeArms
import Derived.DataReads
import Derived.Deep.Slices
section
/-
  The abstract machine's code is the program's: frames, regions in the order of the text.
-/
namespace Go.Abs
set_option linter.unusedVariables false
set_option linter.unusedSimpArgs false
set_option linter.unusedSectionVars false

def concP (ι : Ren) (e : PanicEntry) : PanicEntry := { e with v := conc ι e.v }

structure FrRel (ι : Ren) (N : Nat) (fr : Fr) (a : Act) : Prop where
  size : a.tmps.size = fr.sz
  lim : fr.sz < limit
  tmp : ∀ t, notP (fr.get t) = true → a.tmps.getD t undef = conc ι (fr.get t) ∧ Bd N (fr.get t)
  df : a.defers = fr.df.map (concD ι)
  bd : ∀ d ∈ fr.df, BdD N d

theorem concD_ext {N : Nat} {ι ι' : Ren} (h : Ext N ι ι') {d : Deferred} (hb : BdD N d) : concD ι' d = concD ι d := by
  obtain ⟨t, as⟩ := d
  obtain ⟨h1, h2⟩ := hb
  simp only at h1 h2
  unfold concD
  simp only
  congr 1
  · cases t with
    | fn f c => simp only at h2 ⊢; rw [Array.map_congr_left fun x hx => conc_ext h x (h2 x hx)]
    | collected r => simp only at h2 ⊢; rw [h.loc _ h2]
    | _ => rfl
  · exact Array.map_congr_left fun x hx => conc_ext h x (h1 x hx)
theorem BdD.mono {N M : Nat} (hl : N ≤ M) {d : Deferred} (hb : BdD N d) : BdD M d := by
  obtain ⟨t, as⟩ := d
  obtain ⟨h1, h2⟩ := hb
  refine ⟨fun x hx => Bd.mono hl x (h1 x hx), ?_⟩
  cases t with
  | fn f c => exact fun x hx => Bd.mono hl x (h2 x hx)
  | collected r => exact Nat.lt_of_lt_of_le h2 hl
  | _ => trivial

section
variable {ι ι' : Ren} {N N' : Nat} {fr fr' : Fr} {a : Act}
theorem FrRel.mono (h : FrRel ι N fr a) (hE : Ext N ι ι') (hN : N ≤ N') : FrRel ι' N' fr a := by
  refine ⟨h.size, h.lim, fun t hk => ?_, ?_, fun d hd => BdD.mono hN (h.bd d hd)⟩
  · obtain ⟨h1, h2⟩ := h.tmp t hk
    exact ⟨by rw [conc_ext hE _ h2]; exact h1, Bd.mono hN _ h2⟩
  · rw [h.df]
    exact List.map_congr_left fun d hd => (concD_ext hE (h.bd d hd)).symm
theorem get_set {fr : Fr} {d : Nat} {v : Value} (hd : d < limit) (t : Nat) : (fr.set d v).get t = if t = d then v else fr.get t := by
  unfold Fr.set Fr.get
  by_cases h : t = d
  · subst h
    rw [if_pos rfl, Tr.get_set_same 40 _ _ _ (by unfold limit at hd; omega)]
    rfl
  · rw [if_neg h, Tr.get_set_other 40 _ _ _ _ (Ne.symm h)]
theorem FrRel.put (h : FrRel ι N fr a) {dst : Option Tmp} {v : Value} (hp : fr.put dst v = some fr') (hb : Bd N v) : FrRel ι N fr' (a.put dst (conc ι v)) := by
  unfold Fr.put at hp
  cases dst with
  | none => simp at hp; subst hp; exact h
  | some d =>
    simp only at hp
    cases hd : Nat.blt d fr.sz with
    | false => simp [hd] at hp
    | true =>
      simp [hd] at hp
      subst hp
      have hlt : d < fr.sz := by simpa [Nat.blt_eq] using hd
      have hdl : d < limit := Nat.lt_trans hlt h.lim
      refine ⟨by simp [Act.put, Fr.set, h.size], h.lim, fun t => ?_, h.df, h.bd⟩
      rw [get_set hdl]
      simp only [Act.put]
      by_cases ht : t = d
      · subst ht
        intro _
        simp [Array.getD, h.size, hlt, hb]
      · rw [if_neg ht]
        intro hk
        obtain ⟨h1, h2⟩ := h.tmp t hk
        refine ⟨?_, h2⟩
        rw [← h1]
        simp [Array.getD_eq_getD_getElem?, Array.getElem?_setIfInBounds_ne (Ne.symm ht)]
theorem FrRel.defer (h : FrRel ι N fr a) {d : Deferred} (hb : BdD N d) : FrRel ι N { fr with df := d :: fr.df } { a with defers := concD ι d :: a.defers } :=
  ⟨h.size, h.lim, h.tmp, by simp [h.df], fun d' hd => by
    rcases List.mem_cons.1 hd with rfl | hd
    · exact hb
    · exact h.bd d' hd⟩
theorem conc_bool_iff {v : Value} {b : Bool} (h : conc ι v = .bool b) : v = .bool b := by
  match v, h with
  | .bool c, h => simpa using h
  | .pointer (some a), h | .slice (some a) _ _, h | .map (some r), h | .func _ _ _, h | .iface t u, h | .agg cs, h | .tuple cs, h => simp at h
  | .chan none, h => simp [conc] at h
  | .chan (some l), h => exact absurd (by simpa using h) (ι.chan_bool l b)
  | .int _ _, h | .float _ _, h | .complex _ _ _, h | .string _, h | .pointer none, h | .slice none _ _, h | .map none, h | .nilFunc, h | .nilIface, h => simp at h
theorem wanted_eq (h : FrRel ι N fr a) (ops : Array Oper) (o : Oper) (hkn : knownA ops fr o = true) : Region.wanted o (yielded ops a.tmps) = wantedA ops fr o := by
  unfold knownA at hkn
  unfold Region.wanted wantedA
  cases hgu : o.guard with
  | none => rfl
  | some q =>
    obtain ⟨j, want⟩ := q
    rw [hgu] at hkn
    simp only at hkn ⊢
    unfold yielded
    cases hd : (ops[j]?).bind (·.dst) with
    | none => rfl
    | some d =>
      simp only [Option.bind_some]
      rw [hd] at hkn
      obtain ⟨h1, h2⟩ := h.tmp d hkn
      rcases Nat.lt_or_ge d a.tmps.size with hlt | hge
      · have hg : a.tmps[d]? = some (conc ι (fr.get d)) := by
          rw [Array.getElem?_eq_getElem hlt]
          simp [Array.getD, hlt] at h1
          rw [h1]
        rw [hg]
        cases hv : fr.get d with
        | bool b => cases b <;> cases want <;> simp
        | pointer x => cases x <;> simp
        | slice x l c => cases x <;> simp
        | map x => cases x <;> simp
        | chan x =>
          cases x with
          | none => simp [conc]
          | some l =>
            simp only [conc_chan]
            cases hc : ι.chan l with
            | bool c => exact absurd hc (ι.chan_bool l c)
            | _ => simp
        | _ => simp
      · have hu : conc ι (fr.get d) = undef := by rw [← h1]; simp [Array.getD, Nat.not_lt.2 hge]
        rw [Array.getElem?_eq_none hge]
        cases hv : fr.get d with
        | bool b => rw [hv] at hu; simp [undef] at hu
        | _ => rfl
end

section
variable {P : Program} {E : Env} {pr : Prot} {w0 : World} {ι : Ren} {μ : Hp} {w : World} (hE : EnvOk P E)

theorem ev_ok (hS : Sim pr w0 E.ng ι μ w) {fr : Fr} {a : Act} (h : FrRel ι μ.next fr a) (x : Operand) (hx : okOpnd E fr.ev x = true) : a.eval x = conc ι (fr.ev x) ∧ Bd μ.next (fr.ev x) := by
  cases x with
  | tmp t => exact h.tmp t hx
  | const v =>
    have := conc_plain ι μ.next 4 v hx
    exact ⟨this.1.symm, this.2⟩
  | global g =>
    simp only [okOpnd, Nat.blt_eq] at hx
    obtain ⟨⟨h1, _⟩, h2⟩ := hS.glob g hx
    refine ⟨?_, by simpa [Fr.ev] using h2⟩
    simp [Act.eval, Fr.ev, Ren.addr, h1]
  | func f => simp [Act.eval, Fr.ev]

def EndRel (ι : Ren) (N : Nat) : Ending → Ending → Prop
  | .returned v, .returned v' => v' = conc ι v ∧ Bd N v
  | .panicked ch, .panicked ch' => ch' = ch.map (concP ι) ∧ ∀ e ∈ ch, Bd N e.v
  | _, _ => False

/-- The abstract calls are the program's. -/
def CallsOk (P : Program) (pr : Prot) (w0 : World) (ng : Nat) (callF : CallF) : Prop :=
  ∀ f args μ e μ', callF f args μ = some (e, μ') → ∀ ι w, Sim pr w0 ng ι μ w → (∀ x ∈ args, Bd μ.next x) →
    Calls P f (args.map (conc ι)).toArray w fun e' w' => ∃ ι', Ext μ.next ι ι' ∧ μ.next ≤ μ'.next ∧ Sim pr w0 ng ι' μ' w' ∧ EndRel ι' μ'.next e e'

/-- What is to hold behind a piece of code that comes to this exit. -/
def Goal (pr : Prot) (w0 : World) (ng : Nat) (ι : Ren) (μ : Hp) (Q : Exit → Act → World → Prop) (e : Exit) (fr' : Fr) (μ' : Hp) : Prop :=
  match e with
  | .panic ch => ∀ ι' a' w', Ext μ.next ι ι' → μ.next ≤ μ'.next → Sim pr w0 ng ι' μ' w' → FrRel ι' μ'.next fr' a' → (∀ e ∈ ch, Bd μ'.next e.v) → Q (.panic (ch.map (concP ι'))) a' w'
  | e => ∀ ι' a' w', Ext μ.next ι ι' → μ.next ≤ μ'.next → Sim pr w0 ng ι' μ' w' → FrRel ι' μ'.next fr' a' → Q e a' w'
theorem Goal.weaken {ng : Nat} {Q : Exit → Act → World → Prop} {e : Exit} {fr' : Fr} {μ' μ1 : Hp} {ι1 : Ren} (h : Goal pr w0 ng ι μ Q e fr' μ') (hE : Ext μ.next ι ι1) (hl : μ.next ≤ μ1.next) : Goal pr w0 ng ι1 μ1 Q e fr' μ' := by
  cases e with
  | panic ch => exact fun ι' a' w' h1 h2 h3 h4 h5 => h ι' a' w' (hE.trans h1 hl) (by omega) h3 h4 h5
  | _ => exact fun ι' a' w' h1 h2 h3 h4 => h ι' a' w' (hE.trans h1 hl) (by omega) h3 h4

def RGoal (pr : Prot) (w0 : World) (ng : Nat) (ι : Ren) (μ : Hp) (Q : Exit → Act → World → Prop) : RR → Prop
  | .ok fr' μ' => Goal pr w0 ng ι μ Q .normal fr' μ'
  | .pan ch fr' μ' => Goal pr w0 ng ι μ Q (.panic ch) fr' μ'
  | .no => False
theorem RGoal.weaken {ng : Nat} {Q : Exit → Act → World → Prop} {r : RR} {μ1 : Hp} {ι1 : Ren} (h : RGoal pr w0 ng ι μ Q r) (hE : Ext μ.next ι ι1) (hl : μ.next ≤ μ1.next) : RGoal pr w0 ng ι1 μ1 Q r := by
  cases r with
  | ok fr' μ' => exact Goal.weaken (show Goal pr w0 ng ι μ Q .normal fr' μ' from h) hE hl
  | pan ch fr' μ' => exact Goal.weaken (show Goal pr w0 ng ι μ Q (.panic ch) fr' μ' from h) hE hl
  | no => exact h

include hE
theorem reg_ok {callF : CallF} (hC : CallsOk P pr w0 E.ng callF) (ops : Array Oper) {Q : Exit → Act → World → Prop} : ∀ (l : List Oper) (k : Nat), ops.toList.drop k = l → ∀ {ι : Ren} {μ : Hp} {w : World} {fr : Fr} {a : Act},
    Sim pr w0 E.ng ι μ w → FrRel ι μ.next fr a → RGoal pr w0 E.ng ι μ Q (regA P E callF ops l fr μ) → wpOps P ops Q (List.range' k l.length) a w := by
  intro l
  induction l with
  | nil =>
    intro k hk ι μ w fr a hS hF hG
    exact hG ι a w (Ext.refl _ _) (Nat.le_refl _) hS hF
  | cons o rest ih =>
    intro k hk ι μ w fr a hS hF hG
    have ho : ops[k]? = some o := by
      have h0 : (ops.toList.drop k)[0]? = some o := by rw [hk]; rfl
      rw [List.getElem?_drop] at h0
      simpa using h0
    have hk' : ops.toList.drop (k + 1) = rest := by
      have := congrArg (List.drop 1) hk
      simpa [List.drop_drop] using this
    simp only [regA] at hG
    cases hkn : knownA ops fr o with
    | false => rw [hkn] at hG; exact hG.elim
    | true =>
    rw [hkn] at hG
    simp only [List.length_cons, List.range'_succ, wpOps, ho, wanted_eq hF ops o hkn]
    cases hw : wantedA ops fr o with
    | false =>
      simp only [hw, Bool.false_eq_true, if_false] at hG ⊢
      cases hp : fr.put o.dst undef with
      | none => rw [hp] at hG; exact hG.elim
      | some fr' =>
        rw [hp] at hG
        have := hF.put hp (by simp)
        rw [conc_undef] at this
        exact ih (k + 1) hk' hS this hG
    | true =>
      simp only [hw, if_true] at hG ⊢
      left
      have hrel := op_rel (ng := E.ng) hE hS o a.eval fr.ev (fun x _ hx => ev_ok hS hF x hx)
      unfold Oper.wp
      cases hop : opA P E fr.ev o μ with
      | no => simp only [hop] at hG; exact hG.elim
      | val v μ' =>
        simp only [hop] at hG hrel
        obtain ⟨ι', w', hr, hS', hx, hl, hb⟩ := hrel
        cases hp : fr.put o.dst v with
        | none => rw [hp] at hG; exact hG.elim
        | some fr' =>
          rw [hp] at hG
          have hF' := (hF.mono hx hl).put hp hb
          have hnext := ih (k + 1) hk' hS' hF' (hG.weaken hx hl)
          rcases hr with hr | ⟨hr, rfl⟩
          · rw [hr]; exact hnext
          · rw [hr]; rw [conc_undef] at hnext; exact hnext
      | dfr d μ' =>
        simp only [hop] at hG hrel
        obtain ⟨rfl, hr, hb⟩ := hrel
        rw [hr]
        cases hp : ({ fr with df := d :: fr.df } : Fr).put o.dst undef with
        | none => rw [hp] at hG; exact hG.elim
        | some fr' =>
          rw [hp] at hG
          have := (hF.defer hb).put hp (by simp)
          rw [conc_undef] at this
          exact ih (k + 1) hk' hS this hG
      | pan v μ' =>
        simp only [hop] at hG hrel
        obtain ⟨rfl, hr, hb⟩ := hrel
        rw [hr]
        have := hG ι a w (Ext.refl _ _) (Nat.le_refl _) hS hF (by simp; exact hb)
        simpa [concP, Oper.upon] using this
      | call f args μ' =>
        simp only [hop] at hG hrel
        obtain ⟨hμ, hr, hb⟩ := hrel
        subst hμ
        rw [hr]
        cases hc : callF f args μ' with
        | none => simp only [hc] at hG; exact hG.elim
        | some q =>
          obtain ⟨e, μ''⟩ := q
          simp only [hc] at hG
          refine (hC f args μ' e μ'' hc ι w hS hb).mono ?_
          rintro e' w' ⟨ι', hx, hl, hS', hend⟩
          cases e with
          | returned v =>
            cases e' with
            | returned v' =>
              obtain ⟨rfl, hbv⟩ := hend
              simp only at hG ⊢
              cases hp : fr.put o.dst v with
              | none => rw [hp] at hG; exact hG.elim
              | some fr' =>
                rw [hp] at hG
                exact ih (k + 1) hk' hS' ((hF.mono hx hl).put hp hbv) (hG.weaken hx hl)
            | _ => exact hend.elim
          | panicked ch =>
            cases e' with
            | panicked ch' =>
              obtain ⟨rfl, hbv⟩ := hend
              simp only at hG ⊢
              exact hG ι' a w' hx hl hS' (hF.mono hx hl) hbv
            | _ => exact hend.elim
          | outgrown => cases e' <;> exact hend.elim
end
end Go.Abs
end

section
/-
  The abstract machine: regions whose order is open.
-/
namespace Go.Abs
set_option linter.unusedVariables false
set_option linter.unusedSimpArgs false
set_option linter.unusedSectionVars false

/-! ### A quiet operation leaves the heap -/
theorem ofV_same {μ μ' : Hp} {r : Option Value} {v : Value} (h : ofV μ r = .val v μ') : μ' = μ := by
  cases r with
  | none => simp [ofV] at h
  | some x => simp [ofV] at h; exact h.2.symm
theorem ofPR_same {μ μ' : Hp} {r : PR Value} {v : Value} (h : ofPR μ r = .val v μ') : μ' = μ := by
  unfold ofPR at h
  split at h
  · rename_i x; cases hf : flat x <;> simp [hf] at h; exact h.2.symm
  · rename_i x; cases hf : flat x <;> simp [hf] at h
  · simp at h
theorem binOpA_same {P : Program} {E : Env} {op : BinOp} {t : TypeId} {ox oy : Operand} {x y v : Value} {μ μ' : Hp} (h : binOpA P E op t ox oy x y μ = .val v μ') : μ' = μ := by
  unfold binOpA at h
  split at h
  · split at h
    · cases hc : (constOp ox || constOp oy) <;> simp [hc] at h; exact h.2.symm
    · simp at h
  · split at h
    · cases hc : (constOp ox || constOp oy) <;> simp [hc] at h; exact h.2.symm
    · simp at h
  · cases hc : (flat x && flat y) with
    | true => rw [hc, cond_true] at h; exact ofPR_same h
    | false =>
      rw [hc, cond_false] at h
      split at h <;> simp at h <;> exact h.2.symm
theorem convertA_same {P : Program} {E : Env} {s d : TypeId} {x v : Value} {μ μ' : Hp} (hl : (match E.und d with | some (.slice _) => true | _ => false) = false)
    (h : convertA P E s d x μ = .val v μ') : μ' = μ := by
  unfold convertA at h
  split at h
  · simp at h; exact h.2.symm
  · simp at h; exact h.2.symm
  · rename_i hd; rw [hd] at hl; simp at hl
  · split at h <;> simp at h; exact h.2.symm
  · split at h
    · split at h <;> simp at h; exact h.2.symm
    · simp at h
  · exact ofPR_same h
  · exact ofPR_same h
  · simp at h
theorem sliceA_same {E : Env} {t : TypeId} {x v : Value} {lo hi mx : Option Value} {μ μ' : Hp} (h : sliceA E t x lo hi mx μ = some (v, μ')) (hn : μ'.next = μ.next) : μ' = μ := by
  unfold sliceA at h
  split at h
  · split at h
    · split at h <;> simp at h; exact h.2.symm
    · simp at h
  · split at h
    · split at h
      · simp at h; exact h.2.symm
      · split at h
        · rename_i k μ1 hnew
          simp at h
          rw [← h.2] at hn
          unfold Hp.new at hnew
          cases hlt : Nat.blt μ.next limit <;> simp [hlt] at hnew
          rw [← hnew.2] at hn
          simp at hn
        · simp at h
      · simp at h; exact h.2.symm
    · simp at h
  · split at h <;> simp at h; exact h.2.symm
  · split at h <;> simp at h; exact h.2.symm
  · simp at h

theorem new_next {μ μ' : Hp} {o : AObj} {k : Nat} (h : μ.new o = some (k, μ')) : μ.next < μ'.next := by
  unfold Hp.new at h
  cases hlt : Nat.blt μ.next limit <;> simp [hlt] at h
  rw [← h.2]; exact Nat.lt_succ_self _
theorem nameD_next {d : Deep} {v : Value} {μ μ' : Hp} (h : nameD d μ = some (v, μ')) : μ' = μ ∨ μ.next < μ'.next := by
  cases d with
  | val x => simp [nameD] at h; exact .inl h.2.symm
  | flat vs l c =>
    simp only [nameD] at h
    split at h
    · rename_i hn; simp at h; obtain ⟨_, rfl⟩ := h; exact .inr (new_next hn)
    · simp at h
  | row vs l c =>
    simp only [nameD] at h
    split at h
    · rename_i hn; simp at h; obtain ⟨_, rfl⟩ := h; exact .inr (new_next hn)
    · simp at h
  | void sp =>
    simp only [nameD] at h
    split at h
    · rename_i hn; simp at h; obtain ⟨_, rfl⟩ := h; exact .inr (new_next hn)
    · simp at h
theorem nameAll_next : ∀ {ds : List Deep} {vs : List Value} {μ μ' : Hp}, nameAll ds μ = some (vs, μ') → μ' = μ ∨ μ.next < μ'.next
  | [], vs, μ, μ', h => by simp [nameAll] at h; exact .inl h.2.symm
  | d :: ds, vs, μ, μ', h => by
    simp only [nameAll] at h
    split at h
    · rename_i h1
      split at h
      · rename_i h2
        simp at h
        obtain ⟨_, rfl⟩ := h
        rcases nameD_next h1 with rfl | h1
        · exact nameAll_next h2
        · rcases nameAll_next h2 with rfl | h2
          · exact .inr h1
          · exact .inr (Nat.lt_trans h1 h2)
      · simp at h
    · simp at h
theorem loadRo_same {E : Env} {t : TypeId} {a : Addr} {ds : List Deep} {v : Value} {μ μ' : Hp} (h : loadRo E t a ds μ = some (v, μ')) (hn : μ'.next = μ.next) : μ' = μ := by
  have key : μ' = μ ∨ μ.next < μ'.next := by
    unfold loadRo at h
    split at h
    · rename_i n _ _ _
      simp only at h
      cases hb : Nat.beq ((List.take n (List.drop a.off ds)).length) n <;> rw [hb] at h <;> simp only [cond_true, cond_false] at h
      · simp at h
      · split at h
        · rename_i hna; simp at h; obtain ⟨_, rfl⟩ := h; exact nameAll_next hna
        · simp at h
    · split at h
      · exact nameD_next h
      · simp at h
    · simp at h
  rcases key with h | h
  · exact h
  · omega

theorem quiet_same {P : Program} {E : Env} {ev : Operand → Value} {o : Oper} {v : Value} {μ μ' : Hp} (hl : loud E o.op = false) (h : opA P E ev o μ = .val v μ') (hn : μ'.next = μ.next) : μ' = μ := by
  unfold opA at h
  cases hops : o.op.operands.toList.all (okOpnd E ev) with
  | false => rw [hops, cond_false] at h; simp at h
  | true =>
    rw [hops, cond_true] at h
    obtain ⟨dst, op, type, pos, after, guard⟩ := o
    cases op <;> simp only [loud] at hl <;> simp only at h <;> try (first | contradiction | exact ofV_same h | exact binOpA_same h | (simp at h; exact h.2.symm) | (simp at h; done))
    case pick => split at h <;> simp at h <;> exact h.2.symm
    case load =>
      split at h
      · split at h
        · unfold ofVal at h
          split at h
          · rename_i hs
            simp at h
            obtain ⟨rfl, rfl⟩ := h
            exact loadRo_same hs hn
          · simp at h
        · exact ofV_same h
      · simp at h
    case unOp op t x =>
      cases hf : flat (ev x) <;> rw [hf] at h <;> simp only [cond_true, cond_false] at h
      · simp at h
      · exact ofPR_same h
    case convert s d x => exact convertA_same hl h
    case makeInterface => split at h <;> simp at h; exact h.2.symm
    case slice t x lo hi mx =>
      unfold ofVal at h
      split at h
      · rename_i hs
        simp at h
        obtain ⟨rfl, rfl⟩ := h
        exact sliceA_same hs hn
      · simp at h
    case fieldAddr =>
      split at h
      · split at h <;> simp at h; exact h.2.symm
      · simp at h
    case field => split at h <;> first | exact ofV_same h | (simp at h; done)
    case extract => split at h <;> first | exact ofV_same h | (simp at h; done)
    case call c =>
      obtain ⟨callee, args, argTypes⟩ := c
      cases callee with
      | value f => simp at hl
      | invoke r m => simp at hl
      | builtin b =>
        cases b <;> simp only [builtinA] at h <;> simp only at hl <;> try (first | contradiction | exact ofV_same h)
        all_goals (
          cases hf : (List.map ev args.toList).all flat <;> rw [hf] at h <;> simp only [cond_true, cond_false] at h
          · simp at h
          · exact ofPR_same h)

section
variable {P : Program} {E : Env} {pr : Prot} {w0 : World} (hE : EnvOk P E)

theorem put_spec {fr fr1 : Fr} {dst : Option Tmp} {v : Value} (hlim : fr.sz < limit) (h : fr.put dst v = some fr1) : fr1.sz = fr.sz ∧ fr1.df = fr.df ∧ (∀ t, dst = some t → fr1.get t = v) ∧ ∀ t, dst ≠ some t → fr1.get t = fr.get t := by
  unfold Fr.put at h
  cases dst with
  | none => simp at h; subst h; exact ⟨rfl, rfl, by simp, fun _ _ => rfl⟩
  | some d =>
    simp only at h
    cases hd : Nat.blt d fr.sz with
    | false => simp [hd] at h
    | true =>
      simp [hd] at h
      subst h
      have hlt : d < fr.sz := by simpa [Nat.blt_eq] using hd
      refine ⟨rfl, rfl, fun t ht => ?_, fun t ht => ?_⟩
      · simp at ht; subst ht; rw [get_set (Nat.lt_trans hlt hlim), if_pos rfl]
      · rw [get_set (Nat.lt_trans hlt hlim), if_neg (fun e => ht (by rw [e]))]
theorem put_same {frA frB frB1 : Fr} {dst : Option Tmp} {v : Value} (hsz : frA.sz = frB.sz) (h : frB.put dst v = some frB1) : ∃ frA1, frA.put dst v = some frA1 := by
  unfold Fr.put at *
  cases dst with
  | none => exact ⟨_, rfl⟩
  | some d =>
    simp only at *
    rw [hsz]
    cases hd : Nat.blt d frB.sz with
    | false => simp [hd] at h
    | true => exact ⟨_, rfl⟩

/-- A frame of the region's: which operations have been. -/
structure At (ops : Array Oper) (steps : List Step) (fr : Fr) (L : Nat → Prop) (f : Fr) : Prop where
  sz : f.sz = fr.sz
  df : f.df = fr.df
  yes : ∀ (i : Nat) (o : Oper) (s : Step) (t : Nat), ops[i]? = some o → steps[i]? = some s → o.dst = some t → L i → f.get t = s.v
  no : ∀ (t : Nat), (∀ (i : Nat) (o : Oper), ops[i]? = some o → o.dst = some t → ¬ L i) → f.get t = fr.get t
theorem At.put {ops : Array Oper} {steps : List Step} {fr f f1 : Fr} {L L' : Nat → Prop} (hdst : ∀ (i j : Nat) (oi oj : Oper) (d : Nat), ops[i]? = some oi → ops[j]? = some oj → oi.dst = some d → oj.dst = some d → i = j)
    (hlim : fr.sz < limit) (h : At ops steps fr L f) {j : Nat} {o : Oper} {s : Step} (ho : ops[j]? = some o) (hs : steps[j]? = some s) (hp : f.put o.dst s.v = some f1)
    (hL : ∀ i, L' i ↔ L i ∨ i = j) : At ops steps fr L' f1 := by
  obtain ⟨h1, h2, h3, h4⟩ := put_spec (by rw [h.sz]; exact hlim) hp
  refine ⟨h1.trans h.sz, h2.trans h.df, fun i o' s' t hi hs' hd hl => ?_, fun t hno => ?_⟩
  · by_cases hij : i = j
    · subst hij
      rw [ho] at hi; simp at hi; subst hi
      rw [hs] at hs'; simp at hs'; subst hs'
      exact h3 t hd
    · rw [h4 t fun e => hij (hdst i j o' o t hi ho hd e)]
      exact h.yes i o' s' t hi hs' hd (((hL i).1 hl).resolve_right hij)
  · have hne : o.dst ≠ some t := fun e => hno j o ho e ((hL j).2 (.inr rfl))
    rw [h4 t hne]
    exact h.no t fun i o' hi hd hl => hno i o' hi hd ((hL i).2 (.inl hl))
theorem frames {callF : CallF} {ops : Array Oper} {fr : Fr} {μ : Hp} {steps : List Step} {heaps : List Hp} {fr' : Fr} (hO : OpenOk E ops) (hlim : fr.sz < limit)
    (hP : Pass P E callF ops ops.toList fr μ 0 steps heaps fr') : ∀ j, j ≤ ops.size → At ops steps fr (fun i => i < j) (frAt steps fr' j) := by
  intro j
  induction j with
  | zero => intro _; rw [hP.first]; exact ⟨rfl, rfl, fun i o s t _ _ _ h => absurd h (by omega), fun _ _ => rfl⟩
  | succ j ih =>
    intro hj
    have ho : ops[j]? = some ops[j] := Array.getElem?_eq_getElem (by omega)
    have hs : ∃ s, steps[j]? = some s := ⟨_, List.getElem?_eq_getElem (by rw [hP.len]; simp; omega)⟩
    obtain ⟨s, hs⟩ := hs
    obtain ⟨h1, h2⟩ := hP.put j ops[j] s (by rw [Array.getElem?_toList]; exact ho) hs
    have hA := ih (by omega)
    rw [← h1] at hA
    exact hA.put hO.dst hlim ho hs h2 fun i => by omega

theorem bef_lt {ops : Array Oper} (hO : OpenOk E ops) : ∀ (j i : Nat), ((befA ops.toList []).getD j 0).testBit i = true → i < j := by
  intro j
  induction j using Nat.strongRecOn with
  | _ j ih =>
    intro i h
    obtain ⟨o, ho, e, he, hb, h⟩ := befA_bit ops h
    have hl := hO.edge j o ho e he hb
    rcases h with rfl | ⟨hlt, h⟩
    · exact hl
    · exact Nat.lt_trans (ih e.on hlt i h) hlt

theorem look_same {ops : Array Oper} {steps : List Step} {fr f g : Fr} {L : Nat → Bool} (hO : OpenOk E ops) (hlen : steps.length = ops.size) (hcl : Closed ops L) {j : Nat} {oj : Oper} (hj : ops[j]? = some oj) (hun : L j = false)
    (hrd : ∀ o, ops[j]? = some o → ∀ e ∈ o.after, Region.binds .any e = true → L e.on = true) (hf : At ops steps fr (fun i => L i = true) f) (hg : At ops steps fr (fun i => i < j) g) {t : Nat} (ht : t ∈ oj.looksAt ops) : f.get t = g.get t := by
  by_cases hex : ∃ (i : Nat) (oi : Oper), ops[i]? = some oi ∧ oi.dst = some t
  · obtain ⟨i, oi, hi, hd⟩ := hex
    obtain ⟨hne, hbit⟩ := hO.look i j oi oj t hi hj hd ht
    have hs : ∃ s, steps[i]? = some s := ⟨_, List.getElem?_eq_getElem (by rw [hlen]; exact (Array.getElem?_eq_some_iff.1 hi).1)⟩
    obtain ⟨s, hs⟩ := hs
    rcases hbit with hb | hb
    · rw [hf.yes i oi s t hi hs hd (bef_listed hcl j i hrd hb), hg.yes i oi s t hi hs hd (bef_lt hO j i hb)]
    · have hlt := bef_lt hO i j hb
      have hnl : L i = false := by
        cases hl : L i with
        | false => rfl
        | true => rw [bef_listed hcl i j (hcl i hl) hb] at hun; simp at hun
      rw [hf.no t fun i' o' hi' hd' => by rw [hO.dst i' i o' oi t hi' hi hd' hd, hnl]; simp, hg.no t fun i' o' hi' hd' => by have := hO.dst i' i o' oi t hi' hi hd' hd; omega]
  · rw [hf.no t fun i o hi hd => absurd ⟨i, o, hi, hd⟩ hex, hg.no t fun i o hi hd => absurd ⟨i, o, hi, hd⟩ hex]
theorem wantedA_congr {ops : Array Oper} {f g : Fr} {o : Oper} (h : ∀ t ∈ o.looksAt ops, f.get t = g.get t) : wantedA ops f o = wantedA ops g o := by
  unfold wantedA
  cases hg : o.guard with
  | none => rfl
  | some q =>
    obtain ⟨j, want⟩ := q
    simp only
    cases hd : (ops[j]?).bind (·.dst) with
    | none => rfl
    | some d => simp only; rw [h d (by simp [Oper.looksAt, hg, hd])]
theorem knownA_congr {ops : Array Oper} {f g : Fr} {o : Oper} (h : ∀ t ∈ o.looksAt ops, f.get t = g.get t) : knownA ops f o = knownA ops g o := by
  unfold knownA
  cases hg : o.guard with
  | none => rfl
  | some q =>
    obtain ⟨j, want⟩ := q
    simp only
    cases hd : (ops[j]?).bind (·.dst) with
    | none => rfl
    | some d => simp only; rw [h d (by simp [Oper.looksAt, hg, hd])]
theorem ev_congr {ops : Array Oper} {f g : Fr} {o : Oper} (h : ∀ t ∈ o.looksAt ops, f.get t = g.get t) : ∀ x ∈ o.op.operands, f.ev x = g.ev x := by
  intro x hx
  cases x with
  | tmp t => exact h t (by simp only [Oper.looksAt]; exact List.mem_append_left _ (List.mem_filterMap.2 ⟨.tmp t, by simpa using hx, rfl⟩))
  | const v => rfl
  | global n => rfl
  | func n => rfl

theorem ready_nil {ops : Array Oper} {listed : Array Bool} (hO : OpenOk E ops) (hsz : listed.size = ops.size) (h : Region.ready .any ops listed = []) : ∀ j, j < ops.size → listed.getD j false = true := by
  intro j
  induction j using Nat.strongRecOn with
  | _ j ih =>
    intro hj
    cases hl : listed.getD j false with
    | true => rfl
    | false =>
      exfalso
      have ho : ops[j]? = some ops[j] := Array.getElem?_eq_getElem hj
      have hm : j ∈ Region.ready .any ops listed := by
        rw [mem_ready]
        refine ⟨by simpa [Array.getD, hsz, hj] using hl, _, ho, fun e he hb => ?_⟩
        have hlt := hO.edge j _ ho e he hb
        exact ih e.on hlt (by omega)
      rw [h] at hm
      simp at hm

theorem heapsOk_spec {o : Oper} {s : Step} {lo hi : Nat} : ∀ (hs : List Hp) (k : Nat), heapsOk P E o s lo hi hs k = true → ∀ i μ, hs[i]? = some μ → lo ≤ k + i → k + i ≤ hi → sameAt P E o s μ = true
  | [], k, h, i, μ, hi', _, _ => by simp at hi'
  | m :: r, k, h, i, μ, hi', h1, h2 => by
    simp only [heapsOk, Bool.and_eq_true, Bool.or_eq_true, Nat.blt_eq] at h
    cases i with
    | zero =>
      simp at hi'; subst hi'
      rcases h.1 with (h | h) | h
      · omega
      · omega
      · exact h
    | succ i => exact heapsOk_spec r (k + 1) h.2 i μ (by simpa using hi') (by omega) (by omega)
theorem quietOk_spec {b : List Nat} {ls : List Bool} {heaps : List Hp} : ∀ (l : List Oper) (ss : List Step) (k : Nat), quietOk P E b ls heaps l ss k = true → ∀ j o s, l[j]? = some o → ss[j]? = some s → quietAt P E b ls heaps o s (k + j) = true
  | [], _, k, h, j, o, s, hj, _ => by simp at hj
  | _ :: _, [], k, h, j, o, s, _, hs => by simp at hs
  | o' :: l, s' :: ss, k, h, j, o, s, hj, hs => by
    simp only [quietOk, Bool.and_eq_true] at h
    cases j with
    | zero => simp at hj hs; subst hj; subst hs; exact h.1
    | succ j =>
      have := quietOk_spec l ss (k + 1) h.2 j o s (by simpa using hj) (by simpa using hs)
      rw [show k + (j + 1) = k + 1 + j by omega]
      exact this

include hE
theorem drawn_go {callF : CallF} (hC : CallsOk P pr w0 E.ng callF) {ops : Array Oper} {Q : Exit → Act → World → Prop} {ι : Ren} {μ : Hp} {fr : Fr} {fr' : Fr} {μ' : Hp} {steps : List Step} {heaps : List Hp}
    (hO : OpenOk E ops) (hlim : fr.sz < limit) (hP : Pass P E callF ops ops.toList fr μ 0 steps heaps fr') (hq : quietOk P E (befA ops.toList []) (loudL E ops.toList steps) heaps ops.toList steps 0 = true)
    (hlast : heaps.getLast? = some μ') (hG : Goal pr w0 E.ng ι μ Q .normal fr' μ') :
    ∀ (fuel : Nat) (listed : Array Bool) (a : Act) (w : World), listed.size = ops.size → fuel + countB (List.replicate ops.size true) (fun i => listed.getD i false) 0 = ops.size → Closed ops (fun i => listed.getD i false) →
      (∃ ι1 f μ1, heaps[countB (loudL E ops.toList steps) (fun i => listed.getD i false) 0]? = some μ1 ∧ Sim pr w0 E.ng ι1 μ1 w ∧ Ext μ.next ι ι1 ∧ μ.next ≤ μ1.next ∧ FrRel ι1 μ1.next f a ∧ At ops steps fr (fun i => listed.getD i false = true) f) →
      wpAny P .any ops Q fuel listed a w := by
  have hlen : steps.length = ops.size := by simpa using hP.len
  have hll : (loudL E ops.toList steps).length = ops.size := by simp [loudL, hlen]
  have hend : ∀ (listed : Array Bool) (a : Act) (w : World), (∀ j, j < ops.size → listed.getD j false = true) →
      (∃ ι1 f μ1, heaps[countB (loudL E ops.toList steps) (fun i => listed.getD i false) 0]? = some μ1 ∧ Sim pr w0 E.ng ι1 μ1 w ∧ Ext μ.next ι ι1 ∧ μ.next ≤ μ1.next ∧ FrRel ι1 μ1.next f a ∧ At ops steps fr (fun i => listed.getD i false = true) f) →
      Q .normal a w := by
    rintro listed a w hall ⟨ι1, f, μ1, hμ1, hS, hx, hle, hF, hA⟩
    have hc : countB (loudL E ops.toList steps) (fun i => listed.getD i false) 0 = heaps.length - 1 := by
      rw [hP.hlen, Nat.add_sub_cancel]
      refine countB_congr _ _ _ _ fun k hk => ?_
      have hk' : k < ops.size := by rw [← hll]; exact (List.getElem?_eq_some_iff.1 hk).1
      simpa using hall k hk'
    rw [hc, ← List.getLast?_eq_getElem?, hlast] at hμ1
    simp at hμ1; subst hμ1
    have hA' := frames hO hlim hP ops.size (Nat.le_refl _)
    have hfr' : frAt steps fr' ops.size = fr' := by unfold frAt; rw [List.getElem?_eq_none (by omega)]; rfl
    rw [hfr'] at hA'
    have hget : ∀ t, f.get t = fr'.get t := by
      intro t
      by_cases hex : ∃ (i : Nat) (oi : Oper), ops[i]? = some oi ∧ oi.dst = some t
      · obtain ⟨i, oi, hi, hd⟩ := hex
        have hlt : i < ops.size := (Array.getElem?_eq_some_iff.1 hi).1
        have hs : steps[i]? = some steps[i] := List.getElem?_eq_getElem (by omega)
        rw [hA.yes i oi _ t hi hs hd (hall i hlt), hA'.yes i oi _ t hi hs hd hlt]
      · rw [hA.no t fun i o hi hd => absurd ⟨i, o, hi, hd⟩ hex, hA'.no t fun i o hi hd => absurd ⟨i, o, hi, hd⟩ hex]
    refine hG ι1 a w hx hle hS ⟨?_, ?_, fun t => ?_, ?_, fun d hd => ?_⟩
    · rw [hF.size, hA.sz, hA'.sz]
    · rw [hA'.sz]; exact hlim
    · rw [← hget t]; exact hF.tmp t
    · rw [hF.df, hA.df, hA'.df]
    · exact hF.bd d (by rw [hA.df, ← hA'.df]; exact hd)
  intro fuel
  induction fuel with
  | zero =>
    intro listed a w hsz hcnt hcl hI
    have hall : ∀ j, j < ops.size → listed.getD j false = true := fun j hj => by simpa using countB_full ops.size _ 0 (by simpa using hcnt) j hj
    refine ⟨?_, hend listed a w hall hI⟩
    cases hr : Region.ready .any ops listed with
    | nil => rfl
    | cons j r =>
      exfalso
      have hm : j ∈ Region.ready .any ops listed := by rw [hr]; simp
      rw [mem_ready] at hm
      obtain ⟨h0, o, ho, _⟩ := hm
      have hj : j < ops.size := (Array.getElem?_eq_some_iff.1 ho).1
      have := hall j hj
      simp [Array.getD, hsz, hj] at this h0
      rw [this] at h0
      simp at h0
  | succ fuel ih =>
    intro listed a w hsz hcnt hcl hI
    refine ⟨fun hr => hend listed a w (ready_nil hO hsz hr) hI, fun j hj => ?_⟩
    rw [mem_ready] at hj
    obtain ⟨h0, o, ho, hed⟩ := hj
    have hlt : j < ops.size := (Array.getElem?_eq_some_iff.1 ho).1
    have hun : listed.getD j false = false := by simpa [Array.getD, hsz, hlt] using h0
    obtain ⟨ι1, f, μ1, hμ1, hS, hx, hle, hF, hA⟩ := hI
    have hs : steps[j]? = some steps[j] := List.getElem?_eq_getElem (by omega)
    generalize steps[j] = s at hs
    obtain ⟨hp1, hp2⟩ := hP.put j o s (by simpa using ho) hs
    have hAj := frames hO hlim hP j (by omega)
    rw [← hp1] at hAj
    have hrd : ∀ o', ops[j]? = some o' → ∀ e ∈ o'.after, Region.binds .any e = true → listed.getD e.on false = true := by
      intro o' ho' e he hb
      rw [ho] at ho'; simp at ho'; subst ho'
      exact hed e he hb
    have hlook : ∀ t ∈ o.looksAt ops, f.get t = s.fr.get t := fun t ht => look_same hO hlen hcl ho hun hrd hA hAj ht
    have hlsj : (loudL E ops.toList steps)[j]? = some (loud E o.op && s.on) := by
      have ho' : ops.toList[j]? = some o := by simpa using ho
      simp only [loudL, List.getElem?_zipWith, ho', hs]
    have hL' : ∀ k, k ≠ j → (listed.setIfInBounds j true).getD k false = listed.getD k false := fun k hk => getD_set_ne false (Ne.symm hk)
    have hLj : (listed.setIfInBounds j true).getD j false = true := by simp [Array.getD, hsz, hlt]
    have hcount := countB_one (loudL E ops.toList steps) (fun i => listed.getD i false) (fun i => (listed.setIfInBounds j true).getD i false) 0 j (by simpa using hun) (by simpa using hLj) (fun k hk => by simpa using (hL' k hk).symm)
    rw [hlsj, Option.getD_some] at hcount
    have hnext : ∀ ι2 μ2 w2, heaps[countB (loudL E ops.toList steps) (fun i => listed.getD i false) 0 + (bif (loud E o.op && s.on) then 1 else 0)]? = some μ2 → Sim pr w0 E.ng ι2 μ2 w2 → Ext μ1.next ι1 ι2 → μ1.next ≤ μ2.next → Bd μ2.next s.v →
        wpAny P .any ops Q fuel (listed.setIfInBounds j true) (a.put o.dst (conc ι2 s.v)) w2 := by
      intro ι2 μ2 w2 hh hS2 hx2 hl2 hb2
      refine ih _ _ _ (by simp [hsz]) ?_ ?_ ?_
      · have := countB_one (List.replicate ops.size true) (fun i => listed.getD i false) (fun i => (listed.setIfInBounds j true).getD i false) 0 j (by simpa using hun) (by simpa using hLj) (fun k hk => by simpa using (hL' k hk).symm)
        rw [List.getElem?_replicate, if_pos hlt] at this
        simp only [Option.getD_some, cond_true] at this
        omega
      · intro i hi o' ho' e he hb
        by_cases hij : i = j
        · subst hij; exact getD_set_true (hrd o' ho' e he hb)
        · exact getD_set_true (hcl i (by have := hL' i hij; simp only at hi ⊢; rw [← this]; exact hi) o' ho' e he hb)
      · obtain ⟨f2, hf2⟩ := put_same (by rw [hA.sz, hAj.sz]) hp2
        refine ⟨ι2, f2, μ2, by rw [hcount]; exact hh, hS2, hx.trans hx2 hle, by omega, (hF.mono hx2 hl2).put hf2 hb2, hA.put hO.dst hlim ho hs hf2 fun i => ?_⟩
        by_cases hij : i = j
        · subst hij; simp only [hLj, or_true]
        · rw [hL' i hij]; simp [hij]
    obtain ⟨hoff, ⟨hkn, hon⟩, hitem⟩ := hP.item j o s (by simpa using ho) hs
    unfold wpOp
    simp only [ho]
    rw [wanted_eq hF ops o (by rw [knownA_congr hlook]; exact hkn), wantedA_congr hlook, ← hon]
    cases hson : s.on with
    | false =>
      simp only [Bool.false_eq_true, if_false]
      have := hnext ι1 μ1 w (by simpa [hson] using hμ1) hS (Ext.refl _ _) (Nat.le_refl _) (by rw [hoff hson]; simp)
      rw [hoff hson, conc_undef] at this
      exact this
    | true =>
      simp only [if_true]
      left
      have hrel := op_rel (ng := E.ng) hE hS o a.eval s.fr.ev (fun x hx hok => by
        rw [← ev_congr hlook x hx]
        refine ev_ok hS hF x ?_
        cases x with
        | tmp t => simp only [okOpnd] at hok ⊢; rw [ev_congr hlook _ hx]; exact hok
        | _ => exact hok)
      obtain ⟨m, hm, hitem⟩ := hitem hson
      unfold Oper.wp
      rcases hitem with ⟨hquiet, hitem⟩ | ⟨hloud, μ2, hμ2, hitem⟩
      · -- a quiet operation: the same in this heap
        have hop : opA P E s.fr.ev o μ1 = .val s.v μ1 := by
          have hqa := quietOk_spec _ _ 0 hq j o s (by simpa using ho) hs
          unfold quietAt at hqa
          simp only [hquiet, hson, Bool.not_true, Bool.or_self, Bool.false_or, Nat.zero_add, Bool.or_eq_true, Bool.and_eq_true] at hqa
          have hlo : countB (loudL E ops.toList steps) (fun i => ((befA ops.toList []).getD j 0).testBit i) 0 ≤ countB (loudL E ops.toList steps) (fun i => listed.getD i false) 0 :=
            countB_mono _ _ _ _ fun k _ hk => by simp only [Nat.zero_add] at hk ⊢; exact bef_listed hcl j k hrd hk
          have hhi : countB (loudL E ops.toList steps) (fun i => listed.getD i false) 0 ≤ countB (loudL E ops.toList steps) (fun i => !((befA ops.toList []).getD i 0).testBit j) 0 :=
            countB_mono _ _ _ _ fun k _ hk => by
              simp only [Nat.zero_add] at hk ⊢
              cases hb : ((befA ops.toList []).getD k 0).testBit j with
              | false => rfl
              | true => have := bef_listed hcl k j (hcl k hk) hb; rw [hun] at this; simp at this
          rcases hqa with ⟨h1, h2⟩ | hqa
          · have h1 := beq_sound h1
            have h2 := beq_sound h2
            have hk := hP.k j s hs
            have : countB (loudL E ops.toList steps) (fun i => listed.getD i false) 0 = countB (loudL E ops.toList steps) (fun i => decide (i < j)) 0 := by omega
            rw [this, hm] at hμ1
            simp at hμ1; subst hμ1
            obtain ⟨m', h3, h4⟩ := hitem
            rw [h3, quiet_same hquiet h3 h4]
          · have := heapsOk_spec heaps 0 hqa _ μ1 hμ1 (by omega) (by omega)
            unfold sameAt at this
            split at this
            · rename_i v m' h3
              simp only [Bool.and_eq_true] at this
              rw [h3, quiet_same hquiet h3 (beq_sound this.1), eqV_sound _ _ _ this.2]
            · simp at this
        rw [hop] at hrel
        obtain ⟨ι2, w2, hr, hS2, hx2, hl2, hb2⟩ := hrel
        have := hnext ι2 μ1 w2 (by simpa [hquiet] using hμ1) hS2 hx2 hl2 hb2
        rcases hr with hr | ⟨hr, hv⟩
        · rw [hr]; exact this
        · rw [hr]; rw [hv, conc_undef] at this; exact this
      · -- a loud one: its turn has come
        have hk : countB (loudL E ops.toList steps) (fun i => listed.getD i false) 0 = countB (loudL E ops.toList steps) (fun i => decide (i < j)) 0 := by
          refine countB_congr _ _ _ _ fun k hk => ?_
          simp only [Nat.zero_add]
          have hkl : k < ops.size := by rw [← hll]; exact (List.getElem?_eq_some_iff.1 hk).1
          have hok : ops.toList[k]? = some ops[k] := by simp [hkl]
          have hok' : ops[k]? = some ops[k] := by simp [hkl]
          have hkloud : loud E ops[k].op = true := by
            simp only [loudL, List.getElem?_zipWith, hok] at hk
            have hsk : steps[k]? = some steps[k] := List.getElem?_eq_getElem (by omega)
            rw [hsk] at hk
            simp at hk
            exact hk.1
          rcases Nat.lt_trichotomy k j with hkj | hkj | hkj
          · rw [bef_listed hcl j k hrd (hO.ord k j _ _ hok' ho hkloud hloud hkj)]; simp [hkj]
          · subst hkj; rw [hun]; simp
          · have : listed.getD k false = false := by
              cases hb : listed.getD k false with
              | false => rfl
              | true =>
                have := bef_listed hcl k j (hcl k hb) (hO.ord j k _ _ ho hok' hloud hkloud hkj)
                rw [hun] at this
                simp at this
            rw [this]
            simp
            omega
        rw [hk, hm] at hμ1
        simp at hμ1; subst hμ1
        have hh : heaps[countB (loudL E ops.toList steps) (fun i => listed.getD i false) 0 + (bif (loud E o.op && s.on) then 1 else 0)]? = some μ2 := by
          rw [hk]; simp only [hloud, hson, Bool.and_self, cond_true]; exact hμ2
        rcases hitem with hop | ⟨g, args, m', hop, hc⟩
        · rw [hop] at hrel
          obtain ⟨ι2, w2, hr, hS2, hx2, hl2, hb2⟩ := hrel
          have := hnext ι2 μ2 w2 hh hS2 hx2 hl2 hb2
          rcases hr with hr | ⟨hr, hv⟩
          · rw [hr]; exact this
          · rw [hr]; rw [hv, conc_undef] at this; exact this
        · rw [hop] at hrel
          obtain ⟨hm', hr, hb⟩ := hrel
          subst hm'
          rw [hr]
          refine (hC g args _ _ _ hc ι1 w hS hb).mono ?_
          rintro e' w' ⟨ι2, hx2, hl2, hS2, hend'⟩
          cases e' with
          | returned v' =>
            obtain ⟨rfl, hbv⟩ := hend'
            exact hnext ι2 μ2 w' hh hS2 hx2 hl2 hbv
          | panicked ch => exact hend'.elim
          | outgrown => exact hend'.elim

theorem drawn_ok {callF : CallF} (hC : CallsOk P pr w0 E.ng callF) {ops : Array Oper} {Q : Exit → Act → World → Prop} {ι : Ren} {μ : Hp} {w : World} {fr : Fr} {a : Act} {fr' : Fr} {μ' : Hp}
    (h : drawnA P E callF ops fr μ = some (fr', μ')) (hS : Sim pr w0 E.ng ι μ w) (hF : FrRel ι μ.next fr a) (hG : Goal pr w0 E.ng ι μ Q .normal fr' μ') :
    wpAny P .any ops Q ops.size (Array.replicate ops.size false) a w := by
  unfold drawnA at h
  simp only at h
  cases hopen : openOk E ops (befA ops.toList []) with
  | false => simp [hopen] at h
  | true =>
    rw [hopen, cond_true] at h
    cases hst : stepsA P E callF ops ops.toList fr μ 0 with
    | none => simp [hst] at h
    | some q =>
      obtain ⟨steps, heaps, fr1⟩ := q
      simp only [hst] at h
      cases hq : quietOk P E (befA ops.toList []) (loudOn E ops steps) heaps ops.toList steps 0 with
      | false => simp [hq] at h
      | true =>
        rw [hq, cond_true, Option.map_eq_some_iff] at h
        obtain ⟨m, hlast, hm⟩ := h
        simp only [Prod.mk.injEq] at hm
        obtain ⟨rfl, rfl⟩ := hm
        have hP := steps_pass _ _ _ _ _ _ _ hst
        have hnone : ∀ k, (Array.replicate ops.size false).getD k false = false := fun k => by
          by_cases hk : k < ops.size <;> simp [Array.getD, hk]
        refine drawn_go hE hC (openOk_spec hopen) hF.lim hP hq hlast hG ops.size _ a w (by simp) ?_ ?_ ⟨ι, fr, μ, ?_, hS, Ext.refl _ _, Nat.le_refl _, hF, ?_⟩
        · rw [countB_none _ _ _ fun k => by rw [Nat.zero_add]; exact hnone k]; rfl
        · intro i hi; simp only [hnone] at hi; simp at hi
        · rw [countB_none _ _ _ fun k => by rw [Nat.zero_add]; exact hnone k]; exact hP.hd
        · exact ⟨rfl, rfl, fun i o s t _ _ _ hl => by rw [hnone] at hl; simp at hl, fun _ _ => rfl⟩
end
end Go.Abs
end

section
/-
  The abstract machine's code and calls are the program's.
-/
namespace Go.Abs
set_option linter.unusedVariables false
set_option linter.unusedSimpArgs false
set_option linter.unusedSectionVars false

section
variable {P : Program} {E : Env} {pr : Prot} {w0 : World} (hE : EnvOk P E) (hmix : P.follows .mixedOrders = true)

def CodeOk (P : Program) (pr : Prot) (w0 : World) (ng : Nat) (rc : CodeF) : Prop :=
  ∀ c fr μ e fr' μ', rc c fr μ = some (e, fr', μ') → ∀ ι w a Q, Sim pr w0 ng ι μ w → FrRel ι μ.next fr a → Goal pr w0 ng ι μ Q e fr' μ' → c.wp P Q a w
abbrev Sums := FuncId → Option (List Value → Hp → Option (Ending × Hp))
def SumsOk (P : Program) (pr : Prot) (w0 : World) (ng : Nat) (S : Sums) : Prop :=
  ∀ f s, S f = some s → ∀ args μ e μ', s args μ = some (e, μ') → ∀ ι w, Sim pr w0 ng ι μ w → (∀ x ∈ args, Bd μ.next x) →
    Calls P f (args.map (conc ι)).toArray w fun e' w' => ∃ ι', Ext μ.next ι ι' ∧ μ.next ≤ μ'.next ∧ Sim pr w0 ng ι' μ' w' ∧ EndRel ι' μ'.next e e'

theorem fillArgs_get : ∀ (args : List Value) (i : Nat) (t : Tr Value) (k : Nat), i + args.length < limit → (fillArgs args i t).get k = if i ≤ k ∧ k < i + args.length then args[k - i]? else t.get k
  | [], i, t, k, h => by simp [fillArgs]; intro h1 h2; omega
  | v :: vs, i, t, k, h => by
    simp only [List.length_cons] at h
    simp only [fillArgs, fillArgs_get vs (i + 1) _ k (by omega), List.length_cons]
    by_cases hk : k = i
    · subst hk
      rw [if_neg (by omega), if_pos (by omega), Tr.get_set_same 40 _ _ _ (by unfold limit at h; omega)]
      simp
    · rw [Tr.get_set_other 40 _ _ _ _ (Ne.symm hk)]
      by_cases hin : i + 1 ≤ k ∧ k < i + 1 + vs.length
      · rw [if_pos hin, if_pos (by omega), show k - i = (k - (i + 1)) + 1 by omega]; simp
      · rw [if_neg hin, if_neg (by omega)]

theorem enter_ok {ι : Ren} {N : Nat} {fn : Func} {args : List Value} {fr : Fr} (h : Fr.enter fn args = some fr) (hb : ∀ x ∈ args, Bd N x) :
    FrRel ι N fr { tmps := (args.map (conc ι)).toArray ++ Array.replicate (fn.ntmps - (args.map (conc ι)).toArray.size) undef, defers := [] } := by
  unfold Fr.enter at h
  cases hc : (Nat.ble args.length fn.ntmps && Nat.blt fn.ntmps limit) with
  | false => simp [hc] at h
  | true =>
    simp [hc] at h
    subst h
    simp only [Bool.and_eq_true] at hc
    have h1 := Nat.le_of_ble_eq_true hc.1
    have h2 : fn.ntmps < limit := by have := hc.2; simpa [Nat.blt_eq] using this
    refine ⟨by simp; omega, h2, fun t _ => ?_, rfl, by simp⟩
    have hg : ({ t := fillArgs args 0 .e, sz := fn.ntmps, df := [], d := undef } : Fr).get t = (args[t]?).getD undef := by
      simp only [Fr.get, fillArgs_get args 0 .e t (by omega), Nat.zero_le, true_and, Nat.zero_add, Nat.sub_zero]
      split
      · rfl
      · rename_i hlt
        rw [List.getElem?_eq_none (by omega)]
        rfl
    rw [hg]
    rcases Nat.lt_or_ge t args.length with hlt | hge
    · have hm : args[t]? = some args[t] := List.getElem?_eq_getElem hlt
      rw [hm]
      refine ⟨?_, hb _ (List.getElem_mem hlt)⟩
      simp [Array.getD_eq_getD_getElem?, Array.getElem?_append, hlt]
    · rw [List.getElem?_eq_none hge]
      refine ⟨?_, by simp⟩
      simp only [Option.getD_none, conc_undef]
      simp [Array.getD_eq_getD_getElem?, Array.getElem?_append, Nat.not_lt.2 hge, Array.getElem?_replicate]
      split <;> rfl

def resF (tmps : Array Value) (r : ResultVar) : Sem Value :=
  match r with
  | .tmp t => pure (tmps.getD t undef)
  | .cell p t => do loadVar t (← asAddr (tmps.getD p undef))
theorem results_eq (fn : Func) (tmps : Array Value) : results fn tmps = (do
    let vs ← fn.results.mapM (resF tmps)
    pure (if h : vs.size = 1 then vs[0] else .tuple vs)) := by
  unfold results
  congr 2

include hE
theorem results_ok {ι : Ren} {μ : Hp} {w : World} {fr : Fr} {a : Act} (hS : Sim pr w0 E.ng ι μ w) (hF : FrRel ι μ.next fr a) {fn : Func} {vs : List Value} (h : resultsA E fr μ fn.results.toList = some vs) :
    (results fn a.tmps).run P w = .ok (conc ι (packed vs)) w ∧ Bd μ.next (packed vs) := by
  have key : ∀ (l : List ResultVar) (vs : List Value), resultsA E fr μ l = some vs → (l.mapM (resF a.tmps)).run P w = .ok (vs.map (conc ι)) w ∧ ∀ v ∈ vs, Bd μ.next v := by
    intro l
    induction l with
    | nil => intro vs h; simp [resultsA] at h; subst h; simp
    | cons r rest ih =>
      intro vs h
      cases r with
      | tmp t =>
        simp only [resultsA] at h
        cases hk : notP (fr.get t) with
        | false => simp [hk] at h
        | true =>
        rw [hk, cond_true, Option.map_eq_some_iff] at h
        obtain ⟨vs', h', rfl⟩ := h
        obtain ⟨h1, h2⟩ := ih vs' h'
        obtain ⟨h3, h4⟩ := hF.tmp t hk
        refine ⟨?_, ?_⟩
        · simp only [List.mapM_cons, Sem.run_bind, resF, Sem.run_pure, Result.andThen_ok, h1, h3, List.map_cons]
        · intro v hv
          rcases List.mem_cons.1 hv with rfl | hv
          · exact h4
          · exact h2 v hv
      | cell p t =>
        simp only [resultsA] at h
        split at h
        · rename_i ad had
          obtain ⟨h3, h4⟩ := hF.tmp p (by rw [had]; rfl)
          cases hl : loadA E t ad μ with
          | none => simp [hl] at h
          | some v =>
            cases hr : resultsA E fr μ rest with
            | none => simp [hl, hr] at h
            | some vs' =>
              simp [hl, hr] at h
              subst h
              obtain ⟨h1, h2⟩ := ih vs' hr
              obtain ⟨g1, g2⟩ := load_ok hE hS hl
              rw [had, conc_ptr] at h3
              have g3 : (loadVar t (ι.addr ad)).run P w = .ok (conc ι v) w := g1
              have g4 : (resF a.tmps (.cell p t)).run P w = .ok (conc ι v) w := by
                simp only [resF, h3, asAddr, pure_bind]
                exact g3
              refine ⟨?_, ?_⟩
              · simp only [List.mapM_cons, Sem.run_bind, g4, Sem.run_pure, Result.andThen_ok, h1, List.map_cons]
              · intro v' hv
                rcases List.mem_cons.1 hv with rfl | hv
                · exact g2
                · exact h2 v' hv
        · cases h
  obtain ⟨h1, h2⟩ := key _ _ h
  have h3 : (fn.results.mapM (resF a.tmps)).run P w = .ok (vs.map (conc ι)).toArray w := by
    rw [Array.mapM_eq_mapM_toList]
    simp only [Sem.run_map, h1, Result.andThen_ok]
  refine ⟨?_, ?_⟩
  · rw [results_eq]
    simp only [Sem.run_bind, h3, Result.andThen_ok, Sem.run_pure]
    congr 1
    match vs with
    | [] => simp [packed]
    | [v] => simp [packed]
    | v :: u :: r => simp [packed]
  · match vs, h2 with
    | [], _ => simp [packed]
    | [v], h2 => exact h2 v (by simp)
    | v :: u :: r, h2 => simp only [packed, Bd_tuple]; intro x hx; exact h2 x (by simpa using hx)

theorem leave_ok {fn : Func} {c : Code} {f : FuncId} {ι : Ren} {μ : Hp} {w : World} {args : List Value} {fr : Fr} {rc : CodeF} (hrc : CodeOk P pr w0 E.ng rc) (hf : E.fn f = some fn) (hc : fn.body = some c)
    (hS : Sim pr w0 E.ng ι μ w) (hb : ∀ x ∈ args, Bd μ.next x) (hen : Fr.enter fn args = some fr) {e : Ending} {μ' : Hp} (h : leaveA E fn (rc c fr μ) = some (e, μ')) :
    Calls P f (args.map (conc ι)).toArray w fun e' w' => ∃ ι', Ext μ.next ι ι' ∧ μ.next ≤ μ'.next ∧ Sim pr w0 E.ng ι' μ' w' ∧ EndRel ι' μ'.next e e' := by
  have hfn := (hE.fn f fn hf).1
  have hfr := enter_ok (ι := ι) hen hb
  refine calls_of_wp hfn hc ?_
  cases hr : rc c fr μ with
  | none => rw [hr] at h; simp [leaveA] at h
  | some q =>
    obtain ⟨ex, fr', μ1⟩ := q
    rw [hr] at h
    refine hrc c fr μ ex fr' μ1 hr ι w _ _ hS hfr ?_
    have fin : ∀ (k : Exit), (k = .normal ∨ k = .ret) → leaveA E fn (some (k, fr', μ1)) = some (e, μ') → Goal pr w0 E.ng ι μ (bodyPost P fn fun e' w' => ∃ ι', Ext μ.next ι ι' ∧ μ.next ≤ μ'.next ∧ Sim pr w0 E.ng ι' μ' w' ∧ EndRel ι' μ'.next e e') k fr' μ1 := by
      intro k hk h
      have h' : (match fr'.df with
        | [] => match resultsA E fr' μ1 fn.results.toList with
          | some vs => some (Ending.returned (packed vs), μ1)
          | none => none
        | _ :: _ => none) = some (e, μ') := by rcases hk with rfl | rfl <;> exact h
      cases hd : fr'.df with
      | cons d ds => rw [hd] at h'; cases h'
      | nil =>
        rw [hd] at h'
        cases hvs : resultsA E fr' μ1 fn.results.toList with
        | none => simp [hvs] at h'
        | some vs =>
          simp [hvs] at h'
          obtain ⟨rfl, rfl⟩ := h'
          have main : ∀ ι' a' w', Ext μ.next ι ι' → μ.next ≤ μ1.next → Sim pr w0 E.ng ι' μ1 w' → FrRel ι' μ1.next fr' a' → a'.defers = [] ∧ ∃ v, (results fn a'.tmps).run P w' = .ok v w' ∧
              ∃ ι', Ext μ.next ι ι' ∧ μ.next ≤ μ1.next ∧ Sim pr w0 E.ng ι' μ1 w' ∧ EndRel ι' μ1.next (.returned (packed vs)) (.returned v) := by
            intro ι' a' w' hx hl hS' hF'
            obtain ⟨h1, h2⟩ := results_ok hE hS' hF' hvs
            exact ⟨by rw [hF'.df, hd]; rfl, _, h1, ι', hx, hl, hS', rfl, h2⟩
          rcases hk with rfl | rfl <;> exact main
    cases ex with
    | normal => exact fin .normal (.inl rfl) h
    | ret => exact fin .ret (.inr rfl) h
    | panic ch =>
      simp only [leaveA] at h
      cases hd : fr'.df with
      | cons d ds => rw [hd] at h; cases h
      | nil =>
        rw [hd] at h
        simp at h
        obtain ⟨rfl, rfl⟩ := h
        intro ι' a' w' hx hl hS' hF' hbp
        exact ⟨by rw [hF'.df, hd]; rfl, ι', hx, hl, hS', rfl, hbp⟩
    | exit id => simp [leaveA] at h
    | goto l => simp [leaveA] at h
    | outgrown => simp [leaveA] at h

theorem callA_ok {S : Sums} {rc : CodeF} (hSm : SumsOk P pr w0 E.ng S) (hrc : CodeOk P pr w0 E.ng rc) : CallsOk P pr w0 E.ng (callA E S rc) := by
  intro f args μ e μ' h ι w hS hb
  unfold callA at h
  cases hs : S f with
  | some s =>
    simp only [hs] at h
    exact hSm f s hs args μ e μ' h ι w hS hb
  | none =>
    simp only [hs] at h
    cases hf : E.fn f with
    | none => simp [hf] at h
    | some fn =>
      simp only [hf] at h
      cases hc : fn.body with
      | none => simp [hc] at h
      | some c =>
        cases hen : Fr.enter fn args with
        | none => simp [hc, hen] at h
        | some fr =>
          simp only [hc, hen] at h
          exact leave_ok hE hrc hf hc hS hb hen h

omit hE in
theorem loop_ok {rc : CodeF} (hrc : CodeOk P pr w0 E.ng rc) (c : Code) : ∀ (n : Nat) {fr : Fr} {μ : Hp} {e : Exit} {fr' : Fr} {μ' : Hp}, loopA rc c n fr μ = some (e, fr', μ') → ∀ {ι : Ren} {w : World} {a : Act} {Q : Exit → Act → World → Prop},
    Sim pr w0 E.ng ι μ w → FrRel ι μ.next fr a → Goal pr w0 E.ng ι μ Q e fr' μ' → Code.rounds P c Q n a w := by
  intro n
  induction n with
  | zero => intro fr μ e fr' μ' h; simp [loopA] at h
  | succ n ih =>
    intro fr μ e fr' μ' h ι w a Q hS hF hG
    simp only [loopA] at h
    cases hr : rc c fr μ with
    | none => simp [hr] at h
    | some q =>
      obtain ⟨e1, fr1, μ1⟩ := q
      refine hrc c fr μ e1 fr1 μ1 hr ι w a _ hS hF ?_
      cases e1 with
      | normal =>
        simp only [hr] at h
        intro ι' a' w' hx hl hS' hF'
        exact ih h hS' hF' (hG.weaken hx hl)
      | _ =>
        simp only [hr, Option.some.injEq, Prod.mk.injEq] at h
        obtain ⟨rfl, rfl, rfl⟩ := h
        exact hG

include hmix in
theorem codeStep_ok {S : Sums} {rc : CodeF} (hSm : SumsOk P pr w0 E.ng S) (hrc : CodeOk P pr w0 E.ng rc) : CodeOk P pr w0 E.ng (codeStep P E S rc) := by
  intro c fr μ e fr' μ' h ι w a Q hS hF hG
  have hC := callA_ok hE hSm hrc
  cases c with
  | skip => simp [codeStep] at h; obtain ⟨rfl, rfl, rfl⟩ := h; exact wp_skip (hG ι a w (Ext.refl _ _) (Nat.le_refl _) hS hF)
  | label l => simp [codeStep] at h; obtain ⟨rfl, rfl, rfl⟩ := h; exact wp_label (hG ι a w (Ext.refl _ _) (Nat.le_refl _) hS hF)
  | exit id => simp [codeStep] at h; obtain ⟨rfl, rfl, rfl⟩ := h; exact wp_exit (hG ι a w (Ext.refl _ _) (Nat.le_refl _) hS hF)
  | ret => simp [codeStep] at h; obtain ⟨rfl, rfl, rfl⟩ := h; exact wp_ret (hG ι a w (Ext.refl _ _) (Nat.le_refl _) hS hF)
  | goto l => simp [codeStep] at h
  | refuse y => simp [codeStep] at h
  | rangeFunc f ps x y => simp [codeStep] at h
  | region id ops draw =>
    cases draw with
    | false =>
      simp only [codeStep] at h
      refine wp_region ?_
      have hlen : List.range ops.size = List.range' 0 ops.toList.length := by simp [List.range_eq_range']
      rw [hlen]
      refine reg_ok hE hC ops ops.toList 0 (by simp) hS hF ?_
      cases hr : regA P E (callA E S rc) ops ops.toList fr μ with
      | ok f1 m1 => simp [hr] at h; obtain ⟨rfl, rfl, rfl⟩ := h; exact hG
      | pan ch f1 m1 => simp [hr] at h; obtain ⟨rfl, rfl, rfl⟩ := h; exact hG
      | no => simp [hr] at h
    | true =>
      simp only [codeStep] at h
      cases hr : drawnA P E (callA E S rc) ops fr μ with
      | none => simp [hr] at h
      | some q =>
        obtain ⟨f1, m1⟩ := q
        simp [hr] at h
        obtain ⟨rfl, rfl, rfl⟩ := h
        exact wp_region_any hmix (drawn_ok hE hC hr hS.drew hF hG)
  | seq x y =>
    simp only [codeStep] at h
    refine wp_seq ?_
    cases hr : rc x fr μ with
    | none => simp [hr] at h
    | some q =>
      obtain ⟨e1, fr1, μ1⟩ := q
      refine hrc x fr μ e1 fr1 μ1 hr ι w a _ hS hF ?_
      cases e1 with
      | normal =>
        simp only [hr] at h
        intro ι' a' w' hx hl hS' hF'
        exact hrc y fr1 μ1 e fr' μ' h ι' w' a' Q hS' hF' (hG.weaken hx hl)
      | _ =>
        simp only [hr, Option.some.injEq, Prod.mk.injEq] at h
        obtain ⟨rfl, rfl, rfl⟩ := h
        exact hG
  | cond x y z =>
    simp only [codeStep] at h
    cases ho : okOpnd E fr.ev x with
    | false => simp [ho] at h
    | true =>
      simp only [ho, cond_true] at h
      have hev := (ev_ok hS hF x ho).1
      split at h
      · rename_i hb
        rw [hb, conc_bool] at hev
        exact wp_cond_true hev (hrc y fr μ e fr' μ' h ι w a Q hS hF hG)
      · rename_i hb
        rw [hb, conc_bool] at hev
        exact wp_cond_false hev (hrc z fr μ e fr' μ' h ι w a Q hS hF hG)
      · cases h
  | block id x =>
    simp only [codeStep] at h
    refine wp_block ?_
    cases hr : rc x fr μ with
    | none => simp [hr] at h
    | some q =>
      obtain ⟨e1, fr1, μ1⟩ := q
      refine hrc x fr μ e1 fr1 μ1 hr ι w a _ hS hF ?_
      cases e1 with
      | exit id' =>
        simp only [hr] at h
        cases hid : Nat.beq id' id with
        | true =>
          simp [hid] at h
          obtain ⟨rfl, rfl, rfl⟩ := h
          have := beq_yes hid
          intro ι' a' w' hx hl hS' hF'
          simp only [Exit.inBlock, this, if_true]
          exact hG ι' a' w' hx hl hS' hF'
        | false =>
          simp [hid] at h
          obtain ⟨rfl, rfl, rfl⟩ := h
          have := Nat.ne_of_beq_eq_false hid
          intro ι' a' w' hx hl hS' hF'
          simp only [Exit.inBlock, if_neg this]
          exact hG ι' a' w' hx hl hS' hF'
      | _ =>
        simp only [hr, Option.some.injEq, Prod.mk.injEq] at h
        obtain ⟨rfl, rfl, rfl⟩ := h
        exact hG
  | scope x =>
    simp only [codeStep] at h
    refine wp_scope_straight ?_
    cases hr : rc x fr μ with
    | none => simp [hr] at h
    | some q =>
      obtain ⟨e1, fr1, μ1⟩ := q
      refine hrc x fr μ e1 fr1 μ1 hr ι w a _ hS hF ?_
      cases e1 with
      | goto l => simp [hr] at h
      | _ =>
        simp only [hr, Option.some.injEq, Prod.mk.injEq] at h
        obtain ⟨rfl, rfl, rfl⟩ := h
        exact hG
  | loop x =>
    simp only [codeStep] at h
    exact wp_loop_rounds mostRounds (loop_ok hrc x mostRounds h hS hF hG)

include hmix in
theorem codeA_ok {S : Sums} (hSm : SumsOk P pr w0 E.ng S) : ∀ n, CodeOk P pr w0 E.ng (codeA P E S n)
  | 0 => by intro c fr μ e fr' μ' h; simp [codeA] at h
  | n + 1 => codeStep_ok hE hmix hSm (codeA_ok hSm n)

include hmix in
/-- WHAT THE ABSTRACT MACHINE COMES TO, EVERY RUN OF THE PROGRAM COMES TO. -/
theorem run_ok {S : Sums} (hSm : SumsOk P pr w0 E.ng S) (n : Nat) : CallsOk P pr w0 E.ng (run P E S n) := callA_ok hE hSm (codeA_ok hE hmix hSm n)
end
end Go.Abs
end

section
/-
  The abstract machine: runs whose arguments and answer have no addresses, over every world.
-/
namespace Go.Abs
set_option linter.unusedVariables false

/-- No function of the program is the runtime's own count of goroutines (whose answer is the scheduler's). -/
def noGo (P : Program) : Bool := P.funcs.toList.all fun fn => !(fn.name == "runtime.NumGoroutine")
def env (P : Program) : Env where
  info t := P.info? t
  fn f := match P.funcs[f]? with
    | some fn => match fn.body with
      | some _ => some fn
      | none => none
    | none => none
  ng := 0
theorem env_ok {P : Program} (h : noGo P = true) : EnvOk P (env P) := by
  refine ⟨fun t i h => h, fun f fn hf => ?_⟩
  simp only [env] at hf
  split at hf
  · rename_i fn' hfn
    split at hf
    · rename_i c hc
      simp at hf; subst hf
      have := List.all_eq_true.1 h fn' (Array.mem_toList_iff.2 (Array.mem_of_getElem? hfn))
      exact ⟨hfn, by rw [hc]; rfl, by simpa using this⟩
    · simp at hf
  · simp at hf

def μ0 : Hp := { objs := .e, next := 0 }
def noSum : Sums := fun _ => none
theorem noSum_ok (P : Program) (pr : Prot) (w0 : World) (ng : Nat) : SumsOk P pr w0 ng noSum := fun f s h => by simp [noSum] at h
theorem sim0 (w : World) : Sim Prot.all w 0 { loc := fun _ => (0, 0), ext := fun _ => 0 } μ0 w where
  os := rfl
  tape := rfl
  output := rfl
  size := Nat.le_refl _
  prot _ _ _ := rfl
  lt n o h := by simp [Hp.get, μ0, Tr.get] at h
  obj n o h := by simp [Hp.get, μ0, Tr.get] at h
  blk n o h := by simp [Hp.get, μ0, Tr.get] at h
  free n o h := by simp [Hp.get, μ0, Tr.get] at h
  inj n m o o' h := by simp [Hp.get, μ0, Tr.get] at h
  lim := by simp [μ0]
  glob g h := by omega
  ro n o h := by simp [Hp.get, μ0, Tr.get] at h
theorem Sim.below {w0 w : World} {ι : Ren} {μ : Hp} {ng : Nat} (h : Sim Prot.all w0 ng ι μ w) : RowKit.Below w0.heap.size w0 w :=
  ⟨h.os, h.tape, h.output, h.size, fun k hk => h.prot k hk trivial⟩

theorem calls_of_run {P : Program} (hmix : P.follows .mixedOrders = true) (hng : noGo P = true) {f : FuncId} {args : List Value} {v : Value} {μ' : Hp} {n : Nat}
    (h : run P (env P) noSum n f args μ0 = some (.returned v, μ')) (ha : ∀ x ∈ args, Pure x) (hv : Pure v) (w : World) :
    Calls P f args.toArray w fun e w' => e = .returned v ∧ RowKit.Below w.heap.size w w' := by
  have hc := run_ok (env_ok hng) hmix (noSum_ok P Prot.all w (env P).ng) n f args μ0 _ _ h _ w (sim0 w) (fun x hx => (ha x hx { loc := fun _ => (0, 0), ext := fun _ => 0 }).2)
  rw [show args.map (conc { loc := fun _ => (0, 0), ext := fun _ => 0 }) = args by
    conv => rhs; rw [← List.map_id args]
    exact List.map_congr_left fun x hx => (ha x hx _).1] at hc
  refine hc.mono ?_
  rintro e w' ⟨ι, hx, hl, hS, he⟩
  refine ⟨?_, hS.below⟩
  cases e with
  | returned v' => obtain ⟨h1, _⟩ := he; rw [h1, (hv ι).1]
  | _ => exact he.elim

/-- What a run that answers comes to. -/
def answer : Option (Ending × Hp) → Option Value
  | some (.returned v, _) => some v
  | _ => none
theorem calls_of_answer {P : Program} (hmix : P.follows .mixedOrders = true) (hng : noGo P = true) {f : FuncId} {args : List Value} {v : Value} {n : Nat}
    (h : answer (run P (env P) noSum n f args μ0) = some v) (ha : ∀ x ∈ args, Pure x) (hv : Pure v) (w : World) :
    Calls P f args.toArray w fun e w' => e = .returned v ∧ RowKit.Below w.heap.size w w' := by
  unfold answer at h
  split at h
  · rename_i v' μ' hr
    simp at h; subst h
    exact calls_of_run hmix hng hr ha hv w
  · simp at h
end Go.Abs
end

section
/-
  The abstract machine over symbols: an oracle answers where a value is not known; what it answers is recorded as an obligation. This text: single operations.
-/
namespace Go.Abs
set_option linter.unusedVariables false
set_option linter.unusedSimpArgs false
set_option linter.unusedSectionVars false

inductive Ans where
  | go
  | skip (n : Nat)
  | b (d : Bool)
  | sym
  | v (x : Value)
  | l (xs : List Value)
  | dp (ds : List Deep)
  | grow (row : Bool)
  | fit
  | same
  | str (b : ByteArray)

def pull : List Ans → Ans × List Ans
  | [] => (.go, [])
  | .skip 0 :: r => pull r
  | .skip (n + 1) :: r => (.go, .skip n :: r)
  | a :: r => (a, r)

def andO (O : Prop) : Option Prop → Prop
  | none => O
  | some p => O ∧ p
theorem andO_left {O : Prop} {q : Option Prop} (h : andO O q) : O := by
  cases q with
  | none => exact h
  | some p => exact h.1
theorem andO_right {O : Prop} {q : Option Prop} (h : andO O q) : ∀ p, q = some p → p := by
  intro p hp; subst hp; exact h.2

/-- The first n elements, whatever n. -/
def firstS (s n : Nat) (x : Value) (μ : Hp) : Option (List Value × Prop) :=
  match x with
  | .slice none _ _ => some ([], True)
  | .slice (some a) _ _ => match a.spot, μ.cells a.block with
    | none, some vs => some ((vs.drop a.off).take (n * s), a.off + n * s ≤ vs.length)
    | _, _ => none
  | .string b => some (intList (b.data.toList.take n), True)
  | _ => none
theorem firstS_ok {s n : Nat} {x : Value} {μ : Hp} {xs : List Value} {p : Prop} (h : firstS s n x μ = some (xs, p)) (hp : p) : firstA s n x μ = some xs := by
  unfold firstS at h
  unfold firstA
  split at h
  · simp only [Option.some.injEq, Prod.mk.injEq] at h; rw [← h.1]
  · split at h
    · rename_i vs hsp hc
      simp only [Option.some.injEq, Prod.mk.injEq] at h
      obtain ⟨rfl, rfl⟩ := h
      cases n with
      | zero => simp
      | succ n =>
        simp only [hsp, hc]
        rw [show Nat.beq (List.take ((n + 1) * s) (List.drop _ vs)).length ((n + 1) * s) = true from by rw [List.length_take, List.length_drop, Nat.min_eq_left (by omega)]; exact Nat.beq_refl _, cond_true]
    · cases h
  · simp only [Option.some.injEq, Prod.mk.injEq] at h; rw [← h.1]
  · cases h
/-- A row with cells put in, whatever the place. -/
def putAt (vs : List Value) (o : Nat) (xs : List Value) : List Value := vs.take o ++ (xs ++ vs.drop (o + xs.length))
theorem setAt_putAt : ∀ (vs : List Value) (o : Nat) (xs : List Value), o + xs.length ≤ vs.length → setAt vs o xs = some (putAt vs o xs)
  | vs, o, [], h => by
    have e : setAt vs o [] = some vs := by cases vs <;> rfl
    rw [e]; simp [putAt]
  | [], o, x :: xs, h => by simp at h
  | v :: vs, 0, x :: xs, h => by
    simp only [List.length_cons] at h
    simp only [setAt, setAt_putAt vs 0 xs (by omega)]
    simp [putAt]
  | v :: vs, o + 1, x :: xs, h => by
    simp only [List.length_cons] at h
    simp only [setAt, setAt_putAt vs o (x :: xs) (by simp only [List.length_cons]; omega)]
    simp [putAt, Nat.add_right_comm o 1]
def storeS (b o : Nat) (xs : List Value) (μ : Hp) : Option (Hp × Prop) :=
  match μ.get b with
  | some (.cells vs es) => some (μ.put b (.cells (putAt vs o xs) es), (o + xs.length ≤ vs.length) ∧ xs.all one = true)
  | _ => none
theorem storeS_ok {b o : Nat} {xs : List Value} {μ μ' : Hp} {p : Prop} (h : storeS b o xs μ = some (μ', p)) (hp : p) : storeCellsA ⟨b, o, none⟩ xs μ = some μ' := by
  unfold storeS at h
  split at h
  · rename_i vs es hg
    simp only [Option.some.injEq, Prod.mk.injEq] at h
    obtain ⟨rfl, rfl⟩ := h
    simp only [storeCellsA, hp.2, hg, setAt_putAt _ _ _ hp.1, Option.map_some]
  · cases h
/-- A row grown. -/
def growS (E : Env) (e : TypeId) (base : Option Addr) (len cap n : Nat) (old new : List Value) (row : Bool) (μ : Hp) : Option (Value × Hp × Prop) :=
  match E.info e, zeroA E e with
  | some i, some z => bif Nat.blt 0 i.size && Nat.beq z.cells.size i.size then
      match base, row with
      | none, false => match μ.new (.cells (old ++ new) i.size) with
        | some (k, μ') => some (.slice (some ⟨k, 0, none⟩) (len + n) (2 * (len + n) + 1), μ', (len + n) * i.bytes ≤ 140737488355328 ∧ len + n ≤ 4611686018427387904 ∧ old.length = len * i.size ∧ new.length = n * i.size ∧ new.all one = true)
        | none => none
      | some a, false => match μ.new (.cells (old ++ new) i.size) with
        | some (k, μ') => some (.slice (some ⟨k, 0, none⟩) (len + n) (2 * (len + n) + 1), μ', (len + n) * i.bytes ≤ 140737488355328 ∧ len + n ≤ 4611686018427387904 ∧ old.length = len * i.size ∧ new.length = n * i.size ∧ new.all one = true ∧ capOpen cap = false)
        | none => none
      | some a, true => match a.spot, μ.get a.block with
        | none, some (.cells vs es) => match (μ.put a.block .dead).new (.cells (old ++ new) i.size) with
          | some (k, μ') => some (.slice (some ⟨k, 0, none⟩) (len + n) (2 * (len + n) + 1), μ', (len + n) * i.bytes ≤ 140737488355328 ∧ len + n ≤ 4611686018427387904 ∧ old.length = len * i.size ∧ new.length = n * i.size ∧ new.all one = true ∧ capOpen cap = true ∧ es = i.size ∧ a.off + capOf cap * i.size = vs.length)
          | none => none
        | _, _ => none
      | none, true => none
    else none
  | _, _ => none
theorem growS_ok {E : Env} {e : TypeId} {base : Option Addr} {len cap n : Nat} {old new : List Value} {row : Bool} {μ μ' : Hp} {v : Value} {p : Prop} (h : growS E e base len cap n old new row μ = some (v, μ', p)) (hp : p) :
    growA E e base len cap n old new μ = some (v, μ') := by
  unfold growS at h
  split at h
  · rename_i i z hi hz
    cases hc : (Nat.blt 0 i.size && Nat.beq z.cells.size i.size) with
    | false => rw [hc] at h; cases h
    | true =>
      rw [hc, cond_true] at h
      simp only [Bool.and_eq_true] at hc
      have conds : ∀ {a b c d : Prop} , ((len + n) * i.bytes ≤ 140737488355328) → (len + n ≤ 4611686018427387904) → old.length = len * i.size → new.length = n * i.size → new.all one = true →
          (Nat.ble ((len + n) * i.bytes) 140737488355328 && Nat.blt 0 i.size && Nat.ble (len + n) 4611686018427387904 && Nat.beq old.length (len * i.size) && Nat.beq new.length (n * i.size) && new.all one && (zeroA E e).any fun z => Nat.beq z.cells.size i.size) = true := by
        intro _ _ _ _ h1 h2 h3 h4 h5
        simp only [Bool.and_eq_true, hz, Option.any_some]
        exact ⟨⟨⟨⟨⟨⟨Nat.ble_eq_true_of_le h1, hc.1⟩, Nat.ble_eq_true_of_le h2⟩, by rw [h3]; exact Nat.beq_refl _⟩, by rw [h4]; exact Nat.beq_refl _⟩, h5⟩, hc.2⟩
      unfold growA
      simp only [hi]
      split at h
      · split at h
        · rename_i k μ1 hn
          simp only [Option.some.injEq, Prod.mk.injEq] at h
          obtain ⟨rfl, rfl, rfl⟩ := h
          obtain ⟨h1, h2, h3, h4, h5⟩ := hp
          rw [conds (a := True) (b := True) (c := True) (d := True) h1 h2 h3 h4 h5, cond_true]
          simp only [openA, hn]
        · cases h
      · split at h
        · rename_i k μ1 hn
          simp only [Option.some.injEq, Prod.mk.injEq] at h
          obtain ⟨rfl, rfl, rfl⟩ := h
          obtain ⟨h1, h2, h3, h4, h5, h6⟩ := hp
          rw [conds (a := True) (b := True) (c := True) (d := True) h1 h2 h3 h4 h5, cond_true]
          simp only [openA, h6, hn]
        · cases h
      · split at h
        · rename_i vs es hsp hg
          split at h
          · rename_i k μ1 hn
            simp only [Option.some.injEq, Prod.mk.injEq] at h
            obtain ⟨rfl, rfl, rfl⟩ := h
            obtain ⟨h1, h2, h3, h4, h5, h6, h7, h8⟩ := hp
            rw [conds (a := True) (b := True) (c := True) (d := True) h1 h2 h3 h4 h5, cond_true]
            subst h7
            simp only [openA, h6, hsp, hg, h8, Nat.beq_refl, Bool.and_self, cond_true, hn]
          · cases h
        · cases h
      · cases h
  · cases h

/-- append at lengths that are not known. -/
def appendS (E : Env) (argTypes : List TypeId) (args : List Value) (μ : Hp) (ans : Ans) : Option (Value × Hp × Prop) :=
  match argTypes, args with
  | [t, u], [.slice base len cap, x] => match E.und t, E.und u with
    | some (.slice e), some ud => bif isInt ud then none else
      match E.size e, lenA x with
      | some s, some n => match firstS s n x μ with
        | some (new, p) => match base, ans with
          | none, .same => some (.slice none 0 0, μ, p ∧ len = 0 ∧ cap = 0 ∧ n = 0)
          | none, .grow false => match growS E e none 0 0 n [] new false μ with
            | some (v, μ', q) => some (v, μ', p ∧ len = 0 ∧ cap = 0 ∧ n ≠ 0 ∧ q)
            | none => none
          | some a, .same => some (.slice (some a) len cap, μ, p ∧ n = 0 ∧ len + n ≤ capOf cap)
          | some a, .fit => match a.spot with
            | none => match storeS a.block (a.off + len * s) new μ with
              | some (μ', q) => some (.slice (some a) (len + n) cap, μ', p ∧ n ≠ 0 ∧ len + n ≤ capOf cap ∧ q)
              | none => none
            | some _ => none
          | some a, .grow row => match firstS s len (.slice (some a) len cap) μ with
            | some (old, p2) => match growS E e (some a) len cap n old new row μ with
              | some (v, μ', q) => some (v, μ', p ∧ p2 ∧ capOf cap < len + n ∧ q)
              | none => none
            | none => none
          | _, _ => none
        | none => none
      | _, _ => none
    | _, _ => none
  | _, _ => none
theorem appendS_ok {E : Env} {argTypes : List TypeId} {args : List Value} {μ μ' : Hp} {ans : Ans} {v : Value} {p : Prop} (h : appendS E argTypes args μ ans = some (v, μ', p)) (hp : p) : appendA E argTypes args μ = some (v, μ') := by
  unfold appendS at h
  unfold appendA
  split at h
  · rename_i t u base len cap x
    simp only
    split at h
    · rename_i e ud ht hu
      simp only [ht, hu]
      cases hi : isInt ud with
      | true => rw [hi] at h; cases h
      | false =>
        rw [hi, cond_false] at h
        simp only [cond_false]
        unfold appendB
        split at h
        · rename_i s n hs hn
          simp only [hs, hn]
          split at h
          · rename_i new p1 hf
            split at h
            · simp only [Option.some.injEq, Prod.mk.injEq] at h
              obtain ⟨rfl, rfl, rfl⟩ := h
              obtain ⟨h1, rfl, rfl, rfl⟩ := hp
              simp only [firstS_ok hf h1, Nat.beq_refl, Bool.and_self, cond_true]
            · split at h
              · rename_i hg
                simp only [Option.some.injEq, Prod.mk.injEq] at h
                obtain ⟨rfl, rfl, rfl⟩ := h
                obtain ⟨h1, rfl, rfl, h2, h3⟩ := hp
                have := growS_ok hg h3
                simp only [firstS_ok hf h1, Nat.beq_refl, Bool.and_self, cond_true, beq_no h2, cond_false, this]
              · cases h
            · simp only [Option.some.injEq, Prod.mk.injEq] at h
              obtain ⟨rfl, rfl, rfl⟩ := h
              obtain ⟨h1, rfl, h2⟩ := hp
              have h2' : Nat.ble (len + 0) (capOf cap) = true := Nat.ble_eq_true_of_le h2
              simp only [firstS_ok hf h1, h2', Nat.beq_refl, cond_true]
            · rename_i aa
              split at h
              · rename_i hsp
                split at h
                · rename_i μ1 q hst
                  simp only [Option.some.injEq, Prod.mk.injEq] at h
                  obtain ⟨rfl, rfl, rfl⟩ := h
                  obtain ⟨h1, h2, h3, h4⟩ := hp
                  have h3' : Nat.ble (len + n) (capOf cap) = true := Nat.ble_eq_true_of_le h3
                  obtain ⟨ab, ao, asp⟩ := aa
                  simp only at hsp; subst hsp
                  simp only [firstS_ok hf h1, h3', beq_no h2, cond_false, addr_add, storeS_ok hst h4]
                · cases h
              · cases h
            · split at h
              · rename_i old p2 hf2
                split at h
                · rename_i hg
                  simp only [Option.some.injEq, Prod.mk.injEq] at h
                  obtain ⟨rfl, rfl, rfl⟩ := h
                  obtain ⟨h1, h2, h3, h4⟩ := hp
                  have h3' : Nat.ble (len + n) (capOf cap) = false := by
                    cases hb : Nat.ble (len + n) (capOf cap) with
                    | false => rfl
                    | true => exact absurd (Nat.le_of_ble_eq_true hb) (by omega)
                  simp only [firstS_ok hf h1, h3', firstS_ok hf2 h2, growS_ok hg h4]
                · cases h
              · cases h
            · cases h
          · cases h
        · cases h
    · cases h
  · cases h

/-- A bound of a slice expression: what it is, where it lies within a bound. -/
def natS (v : Option Value) (d : Nat) : Option (Nat × (Nat → Prop)) :=
  match v with
  | none => some (d, fun _ => True)
  | some (.int _ i) => some (i.toNat, fun b => 0 ≤ i ∧ i ≤ b)
  | _ => none
theorem natS_some {v : Value} {d n b : Nat} {q : Nat → Prop} (h : natS (some v) d = some (n, q)) (hq : q b) : natOf v b = some n := by
  unfold natS at h
  split at h
  · rename_i hh; cases hh
  · rename_i k i hh
    simp only [Option.some.injEq, Prod.mk.injEq] at h hh
    subst hh
    obtain ⟨rfl, rfl⟩ := h
    have e : (decide (0 ≤ i) && decide (i ≤ (b : Int))) = true := by simp; exact hq
    simp only [natOf, e, cond_true]
  · cases h
def natE (v : Option Value) (b d : Nat) : Option Nat :=
  match v with
  | some v => natOf v b
  | none => some d
theorem natS_end {v : Option Value} {d n b : Nat} {q : Nat → Prop} (h : natS v d = some (n, q)) (hq : q b) : natE v b d = some n := by
  cases v with
  | none => simp only [natS, Option.some.injEq, Prod.mk.injEq] at h; simp only [natE, h.1]
  | some v => exact natS_some h hq
/-- The bounds of x[lo:hi]: lo, hi, what must hold. -/
def boundsS (len cap : Nat) (lo hi : Option Value) : Option (Nat × Nat × Prop) :=
  match natS hi len with
  | some (h, ph) => match natS lo 0 with
    | some (l, pl) => some (l, h, ph (capOf cap) ∧ pl h ∧ l ≤ capOf cap)
    | none => none
  | none => none
theorem boundsS_ok {len cap : Nat} {lo hi : Option Value} {l h : Nat} {p : Prop} (hb : boundsS len cap lo hi = some (l, h, p)) (hp : p) : boundsA len cap lo hi none = some (l, h, cap) := by
  unfold boundsS at hb
  split at hb
  · rename_i h' ph hh
    split at hb
    · rename_i l' pl hl
      simp only [Option.some.injEq, Prod.mk.injEq] at hb
      obtain ⟨rfl, rfl, rfl⟩ := hb
      obtain ⟨h1, h2, h3⟩ := hp
      have eh := natS_end hh h1
      have el := natS_end hl h2
      clear hh hl
      unfold boundsA
      have h3' := Nat.ble_eq_true_of_le h3
      cases hi with
      | none =>
        simp only [natE, Option.some.injEq] at eh
        subst eh
        cases lo with
        | none => simp only [natE, Option.some.injEq] at el; subst el; simp only [h3', cond_true]
        | some v => simp only [natE] at el; simp only [el, h3', cond_true]
      | some u =>
        simp only [natE] at eh
        cases lo with
        | none => simp only [natE, Option.some.injEq] at el; subst el; simp only [eh, h3', cond_true]
        | some v => simp only [natE] at el; simp only [eh, el, h3', cond_true]
    · cases hb
  · cases hb
def sliceS (E : Env) (t : TypeId) (x : Value) (lo hi : Option Value) (ans : Ans) : Option (Value × Prop) :=
  match E.und t, x with
  | some .string, .string s => match ans, boundsS s.size (2 * s.size) lo hi with
    | .sym, some (l, h, p) => some (.string (s.extract l h), p)
    | _, _ => none
  | some (.slice e), .slice (some a) len cap => match E.size e, boundsS len cap lo hi, a.spot, ans with
    | some s, some (l, h, p), none, .sym => some (.slice (some ⟨a.block, a.off + l * s, none⟩) (h - l) (cap - 2 * l), p ∧ l ≠ capOf cap)
    | some s, some (l, h, p), none, .same => some (.slice (some a) (h - l) (cap - 2 * l), p ∧ l = capOf cap ∧ capOpen cap = false)
    | _, _, _, _ => none
  | _, _ => none
theorem sliceS_ok {E : Env} {t : TypeId} {x v : Value} {lo hi : Option Value} {ans : Ans} {p : Prop} {μ : Hp} (h : sliceS E t x lo hi ans = some (v, p)) (hp : p) : sliceA E t x lo hi none μ = some (v, μ) := by
  unfold sliceS at h
  unfold sliceA
  split at h
  · rename_i s hu
    split at h
    · rename_i l h' p' hb
      simp only [Option.some.injEq, Prod.mk.injEq] at h
      obtain ⟨rfl, rfl⟩ := h
      simp only [hu, boundsS_ok hb hp]
    · cases h
  · rename_i e a len cap hu
    split at h
    · rename_i s l h' p' hs hb hsp
      simp only [Option.some.injEq, Prod.mk.injEq] at h
      obtain ⟨rfl, rfl⟩ := h
      obtain ⟨h1, h2⟩ := hp
      obtain ⟨ab, ao, asp⟩ := a
      simp only at hsp; subst hsp
      simp only [hu, hs, boundsS_ok hb h1, beq_no (Ne.symm h2), addr_add]
    · rename_i s l h' p' hs hb hsp
      simp only [Option.some.injEq, Prod.mk.injEq] at h
      obtain ⟨rfl, rfl⟩ := h
      obtain ⟨h1, h2, h3⟩ := hp
      obtain ⟨ab, ao, asp⟩ := a
      simp only at hsp; subst hsp
      simp only [hu, hs, boundsS_ok hb h1, h2, Nat.beq_refl, h3]
    · cases h
  · cases h
theorem bytesOf_intList : ∀ (l : List UInt8), bytesOf (intList l) = some l
  | [] => rfl
  | b :: r => by
    have := bytesOf_intList r
    unfold intList at this ⊢
    simp only [List.map_cons, bytesOf, this, Option.map_some, Option.some.injEq, List.cons.injEq, and_true]
    simp
def strS (E : Env) (src dst : TypeId) (x : Value) (b : ByteArray) (μ : Hp) : Option Prop :=
  match E.und src, E.und dst, x with
  | some (.slice e), some .string, .slice (some a) len _ => match E.und e, a.spot, μ.cells a.block with
    | some (.int .u8), none, some vs => some ((vs.drop a.off).take len = intList b.data.toList ∧ b.data.toList.length = len)
    | _, _, _ => none
  | _, _, _ => none
theorem strS_ok {P : Program} {E : Env} {src dst : TypeId} {x : Value} {b : ByteArray} {μ : Hp} {p : Prop} (h : strS E src dst x b μ = some p) (hp : p) : convertA P E src dst x μ = .val (.string b) μ := by
  unfold strS at h
  split at h
  · rename_i e a len c hs hd
    split at h
    · rename_i vs he hsp hc
      simp only [Option.some.injEq] at h
      subst h
      obtain ⟨h1, h2⟩ := hp
      have hf : firstA 1 len (.slice (some a) len c) μ = some (intList b.data.toList) := by
        unfold firstA
        cases len with
        | zero =>
          have : b.data.toList = [] := List.eq_nil_of_length_eq_zero h2
          simp [this, intList]
        | succ n =>
          simp only [hsp, hc, Nat.mul_one, h1]
          rw [show Nat.beq (intList b.data.toList).length (n + 1) = true from by rw [intList, List.length_map, h2]; exact Nat.beq_refl _, cond_true]
      unfold convertA
      simp only [hs, hd, he, hf, bytesOf_intList]
    · cases h
  · cases h

/-- An operation whose outcome hangs on what is not known. -/
def symOp (P : Program) (E : Env) (ev : Operand → Value) (o : Oper) (μ : Hp) (ans : Ans) : Option (OR × Option Prop) :=
  match o.op, ans with
  | .indexAddr t x i, .sym => match E.und t, ev x, ev i with
    | some (.slice e), .slice (some a) len _, .int _ k => match a.spot, E.size e with
      | none, some s => some (.val (.pointer (some ⟨a.block, a.off + k.toNat * s, none⟩)) μ, some (0 ≤ k ∧ k < len))
      | _, _ => none
    | some (.array n e), .pointer (some a), .int _ k => match a.spot, E.size e with
      | none, some s => some (.val (.pointer (some ⟨a.block, a.off + k.toNat * s, none⟩)) μ, some (0 ≤ k ∧ k < n))
      | _, _ => none
    | _, _, _ => none
  | .index t x i, .sym => match E.und t, ev x, ev i with
    | some .string, .string s, .int _ k => some (.val (.int .u8 (s.data.toList.getD k.toNat 0).toNat) μ, some (0 ≤ k ∧ k.toNat < s.data.toList.length))
    | _, _, _ => none
  | .load t a, .v x => match ev a, E.isAgg t, E.size t with
    | .pointer (some a), some false, some _ => match a.spot, μ.get a.block with
      | none, some (.cells vs _) => some (.val x μ, some (vs[a.off]? = some x))
      | none, some (.rov vs) => some (.val x μ, some (vs[a.off]? = some x))
      | _, _ => none
    | _, _, _ => none
  | .load t a, .l xs => match ev a, E.isAgg t, E.size t with
    | .pointer (some a), some true, some n => match a.spot, μ.get a.block, Nat.beq xs.length n with
      | none, some (.cells vs _), true => some (.val (.agg ⟨xs⟩) μ, some ((vs.drop a.off).take n = xs))
      | none, some (.rov vs), true => some (.val (.agg ⟨xs⟩) μ, some ((vs.drop a.off).take n = xs))
      | _, _, _ => none
    | _, _, _ => none
  | .load t a, .dp es => match ev a, E.isAgg t, E.size t with
    | .pointer (some a), some true, some n => match a.spot, μ.get a.block, Nat.beq es.length n, nameAll es μ with
      | none, some (.ro ds), true, some (vs, μ') => some (.val (.agg ⟨vs⟩) μ', some ((ds.drop a.off).take n = es))
      | _, _, _, _ => none
    | .pointer (some a), some false, some _ => match a.spot, μ.get a.block, es with
      | none, some (.ro ds), [d] => match nameD d μ with
        | some (v, μ') => some (.val v μ', some (ds[a.off]? = some d))
        | none => none
      | _, _, _ => none
    | _, _, _ => none
  | .store t a x, .sym => match ev a, E.size t with
    | .pointer (some ad), some n => match ad.spot, Nat.beq (ev x).cells.size n, storeS ad.block ad.off (ev x).cells.toList μ with
      | none, true, some (μ', p) => some (.val undef μ', some p)
      | _, _, _ => none
    | _, _ => none
  | .convert src dst x, .str b => match strS E src dst (ev x) b μ with
    | some p => some (.val (.string b) μ, some p)
    | none => none
  | .slice t x lo hi none, ans => match sliceS E t (ev x) (lo.map ev) (hi.map ev) ans with
    | some (v, p) => some (.val v μ, some p)
    | none => none
  | .pick c a b, .b d => match ev c with
    | .bool t => some (.val (bif d then ev a else ev b) μ, some (t = d))
    | _ => none
  | .call c, ans => match c.callee with
    | .builtin .append => match appendS E c.argTypes.toList (c.args.toList.map ev) μ ans with
      | some (v, μ', p) => some (.val v μ', some p)
      | none => none
    | _ => none
  | _, _ => none

def opS (P : Program) (E : Env) (ev : Operand → Value) (o : Oper) (μ : Hp) (ans : Ans) : Option (OR × Option Prop) :=
  match ans with
  | .go => some (opA P E ev o μ, none)
  | ans => bif o.op.operands.toList.all (okOpnd E ev) then symOp P E ev o μ ans else none

section
variable {P : Program} {E : Env} {ev : Operand → Value} {μ : Hp}

theorem natOf_sym {k : IntKind} {i : Int} {n : Nat} (h0 : 0 ≤ i) (h1 : i < (n + 1 : Nat)) : natOf (.int k i) n = some i.toNat := by
  simp only [natOf]
  have e : (decide (0 ≤ i) && decide (i ≤ (n : Int))) = true := by simp; omega
  rw [e]; rfl

theorem symOp_ok {o : Oper} {ans : Ans} {r : OR} {q : Option Prop} (hops : o.op.operands.toList.all (okOpnd E ev) = true) (h : symOp P E ev o μ ans = some (r, q)) (hq : ∀ p, q = some p → p) : opA P E ev o μ = r := by
  unfold opA
  rw [hops, cond_true]
  obtain ⟨dst, op, type, pos, after, guard⟩ := o
  unfold symOp at h
  split at h
  · rename_i t x i heq
    simp only at heq; subst heq
    simp only [indexAddrA]
    split at h
    · rename_i e a len c k' k hu hx hi
      split at h
      · rename_i s hsp hs
        simp only [Option.some.injEq, Prod.mk.injEq] at h
        obtain ⟨rfl, rfl⟩ := h
        obtain ⟨h0, h1⟩ := hq _ rfl
        obtain ⟨ab, ao, asp⟩ := a
        simp only at hsp; subst hsp
        rw [hu, hx, hi]
        cases len with
        | zero => exact absurd h1 (by omega)
        | succ n =>
          simp only
          rw [natOf_sym h0 h1, hs]
          simp only [ofV, addr_add]
      · cases h
    · rename_i n e a k' k hu hx hi
      split at h
      · rename_i s hsp hs
        simp only [Option.some.injEq, Prod.mk.injEq] at h
        obtain ⟨rfl, rfl⟩ := h
        obtain ⟨h0, h1⟩ := hq _ rfl
        obtain ⟨ab, ao, asp⟩ := a
        simp only at hsp; subst hsp
        rw [hu, hx, hi]
        cases n with
        | zero => exact absurd h1 (by omega)
        | succ n =>
          simp only
          rw [natOf_sym h0 h1, hs]
          simp only [ofV, addr_add]
      · cases h
    · cases h
  · rename_i t x i heq
    simp only at heq; subst heq
    simp only [indexA]
    split at h
    · rename_i s k' k hu hx hi
      simp only [Option.some.injEq, Prod.mk.injEq] at h
      obtain ⟨rfl, rfl⟩ := h
      obtain ⟨h0, h1⟩ := hq _ rfl
      rw [hu, hx, hi]
      simp only
      have e : decide (0 ≤ k) = true := by simpa using h0
      rw [e, cond_true, List.getElem?_eq_getElem h1]
      simp only [ofV, List.getD_eq_getElem?_getD, List.getElem?_eq_getElem h1, Option.getD_some]
    · cases h
  · rename_i t a x heq
    simp only at heq; subst heq
    split at h
    · rename_i ad n ha hg hs
      simp only [ha]
      split at h
      · rename_i vs es hsp hget
        simp only [Option.some.injEq, Prod.mk.injEq] at h
        obtain ⟨rfl, rfl⟩ := h
        have := hq _ rfl
        simp only [hget, loadA, hsp, Hp.cells, hg, hs, this, ofV]
      · rename_i vs hsp hget
        simp only [Option.some.injEq, Prod.mk.injEq] at h
        obtain ⟨rfl, rfl⟩ := h
        have := hq _ rfl
        simp only [hget, loadA, hsp, Hp.cells, hg, hs, this, ofV]
      · cases h
    · cases h
  · rename_i t a xs heq
    simp only at heq; subst heq
    split at h
    · rename_i ad n ha hg hs
      simp only [ha]
      split at h
      · rename_i vs es hsp hget hl
        simp only [Option.some.injEq, Prod.mk.injEq] at h
        obtain ⟨rfl, rfl⟩ := h
        have := hq _ rfl
        simp only [hget, loadA, hsp, Hp.cells, hg, hs, this, hl, cond_true, ofV]
      · rename_i vs hsp hget hl
        simp only [Option.some.injEq, Prod.mk.injEq] at h
        obtain ⟨rfl, rfl⟩ := h
        have := hq _ rfl
        simp only [hget, loadA, hsp, Hp.cells, hg, hs, this, hl, cond_true, ofV]
      · cases h
    · cases h
  · rename_i t a es heq
    simp only at heq; subst heq
    split at h
    · rename_i ad n ha hg hs
      simp only [ha]
      split at h
      · rename_i ds vs μ' hsp hget hl hn
        simp only [Option.some.injEq, Prod.mk.injEq] at h
        obtain ⟨rfl, rfl⟩ := h
        have := hq _ rfl
        simp only [hget, loadRo, hsp, hg, hs, this, hl, cond_true, hn, ofVal]
      · cases h
    · rename_i ad n ha hg hs
      simp only [ha]
      split at h
      · rename_i ds d hsp hget
        split at h
        · rename_i v μ' hn
          simp only [Option.some.injEq, Prod.mk.injEq] at h
          obtain ⟨rfl, rfl⟩ := h
          have := hq _ rfl
          simp only [hget, loadRo, hsp, hg, hs, this, hn, ofVal]
        · cases h
      · cases h
    · cases h
  · rename_i t a x heq
    simp only at heq; subst heq
    split at h
    · rename_i ad n ha hs
      split at h
      · rename_i μ' p hsp hl hst
        simp only [Option.some.injEq, Prod.mk.injEq] at h
        obtain ⟨rfl, rfl⟩ := h
        obtain ⟨ab, ao, asp⟩ := ad
        simp only at hsp; subst hsp
        simp only [ha, storeA, hs, hl, cond_true, storeS_ok hst (hq _ rfl), ofHp]
      · cases h
    · cases h
  · rename_i src dst x b heq
    simp only at heq; subst heq
    split at h
    · rename_i p hs
      simp only [Option.some.injEq, Prod.mk.injEq] at h
      obtain ⟨rfl, rfl⟩ := h
      simp only [strS_ok (P := P) hs (hq _ rfl)]
    · cases h
  · rename_i t x lo hi heq
    simp only at heq; subst heq
    split at h
    · rename_i v p hs
      simp only [Option.some.injEq, Prod.mk.injEq] at h
      obtain ⟨rfl, rfl⟩ := h
      simp only [Option.map_none, sliceS_ok hs (hq _ rfl), ofVal]
    · cases h
  · rename_i c a b d heq
    simp only at heq; subst heq
    split at h
    · rename_i t ht
      simp only [Option.some.injEq, Prod.mk.injEq] at h
      obtain ⟨rfl, rfl⟩ := h
      have := hq _ rfl
      subst this
      simp only [ht]
      cases t <;> rfl
    · cases h
  · rename_i c heq
    simp only at heq; subst heq
    split at h
    · rename_i hcal
      split at h
      · rename_i v μ' p ha
        simp only [Option.some.injEq, Prod.mk.injEq] at h
        obtain ⟨rfl, rfl⟩ := h
        simp only [hcal, builtinA, appendS_ok ha (hq _ rfl), ofVal]
      · cases h
    · cases h
  · cases h

theorem opS_ok {o : Oper} {ans : Ans} {r : OR} {q : Option Prop} (h : opS P E ev o μ ans = some (r, q)) (hq : ∀ p, q = some p → p) : opA P E ev o μ = r := by
  unfold opS at h
  split at h
  · simp only [Option.some.injEq, Prod.mk.injEq] at h; exact h.1
  · cases hops : o.op.operands.toList.all (okOpnd E ev) with
    | false => rw [hops] at h; cases h
    | true => rw [hops, cond_true] at h; exact symOp_ok hops h hq
end
end Go.Abs
end

section
/-
  The abstract machine over symbols: code, with an oracle, summaries of functions and of pieces of code.
-/
namespace Go.Abs
set_option linter.unusedVariables false
set_option linter.unusedSimpArgs false
set_option linter.unusedSectionVars false

abbrev OR' := Exit × Fr × Hp × List Ans × Prop
/-- Summaries of functions; of pieces of code, by their places. -/
abbrev SumO := List Value → Hp → Option (Ending × Hp × Prop)
abbrev PieceO := Fr → Hp → Option (Exit × Fr × Hp × Prop)
structure Sm where
  S : FuncId → Option SumO
  L : FuncId → List Nat → Option PieceO

/-- The piece of code at a place. -/
def child : Code → Nat → Option Code
  | .seq a _, 0 => some a
  | .seq _ b, 1 => some b
  | .cond _ a _, 0 => some a
  | .cond _ _ b, 1 => some b
  | .block _ a, 0 => some a
  | .scope a, 0 => some a
  | .loop a, 0 => some a
  | _, _ => none
/-- A place is written with the last step first. -/
def sub (c : Code) : List Nat → Option Code
  | [] => some c
  | i :: p => (sub c p).bind fun d => child d i

abbrev CallO := FuncId → List Value → Hp → List Ans → Prop → Option (Ending × Hp × List Ans × Prop)
abbrev CodeO := FuncId → List Nat → Code → Fr → Hp → List Ans → Prop → Option OR'

def wantO (ops : Array Oper) (fr : Fr) (o : Oper) (orc : List Ans) (O : Prop) : Bool × List Ans × Prop :=
  match o.guard with
  | none => (true, orc, O)
  | some _ => match pull orc with
    | (.b d, orc') => (d, orc', O ∧ wantedA ops fr o = d)
    | (_, orc') => (wantedA ops fr o, orc', O)

def regO (P : Program) (E : Env) (callF : CallO) (ops : Array Oper) : List Oper → Fr → Hp → List Ans → Prop → Option OR'
  | [], fr, μ, orc, O => some (.normal, fr, μ, orc, O)
  | o :: rest, fr, μ, orc, O =>
    match knownA ops fr o, wantO ops fr o orc O with
    | false, _ => none
    | true, (false, orc1, O1) => match fr.put o.dst undef with
      | some fr' => regO P E callF ops rest fr' μ orc1 O1
      | none => none
    | true, (true, orc1, O1) => match pull orc1 with
      | (ans, orc2) => match opS P E fr.ev o μ ans with
        | some (.val v μ', q) => match fr.put o.dst v with
          | some fr' => regO P E callF ops rest fr' μ' orc2 (andO O1 q)
          | none => none
        | some (.dfr d μ', q) => match ({ fr with df := d :: fr.df } : Fr).put o.dst undef with
          | some fr' => regO P E callF ops rest fr' μ' orc2 (andO O1 q)
          | none => none
        | some (.pan v μ', q) => some (.panic [{ v, recovered := false }], fr, μ', orc2, andO O1 q)
        | some (.call f args μ', q) => match callF f args μ' orc2 (andO O1 q) with
          | some (.returned v, μ'', orc3, O3) => match fr.put o.dst v with
            | some fr' => regO P E callF ops rest fr' μ'' orc3 O3
            | none => none
          | some (.panicked ch, μ'', orc3, O3) => some (.panic ch, fr, μ'', orc3, O3)
          | _ => none
        | _ => none

def leaveO (E : Env) (fn : Func) (r : Option OR') : Option (Ending × Hp × List Ans × Prop) :=
  match r with
  | some (.normal, fr, μ, orc, O) | some (.ret, fr, μ, orc, O) => match fr.df with
    | [] => match resultsA E fr μ fn.results.toList with
      | some vs => some (.returned (packed vs), μ, orc, O)
      | none => none
    | _ :: _ => none
  | some (.panic ch, fr, μ, orc, O) => match fr.df with
    | [] => some (.panicked ch, μ, orc, O)
    | _ :: _ => none
  | _ => none

def callO (E : Env) (s : Sm) (rc : CodeO) : CallO := fun f args μ orc O =>
  match s.S f with
  | some g => match g args μ with
    | some (e, μ', p) => some (e, μ', orc, O ∧ p)
    | none => none
  | none => match E.fn f with
    | some fn => match fn.body, Fr.enter fn args with
      | some c, some fr => leaveO E fn (rc f [] c fr μ orc O)
      | _, _ => none
    | none => none

def loopO (rc : CodeO) (f : FuncId) (p : List Nat) (c : Code) : Nat → Fr → Hp → List Ans → Prop → Option OR'
  | 0, _, _, _, _ => none
  | n + 1, fr, μ, orc, O => match rc f (0 :: p) c fr μ orc O with
    | some (.normal, fr', μ', orc', O') => loopO rc f p c n fr' μ' orc' O'
    | r => r

def codeStepO (P : Program) (E : Env) (s : Sm) (run0 : CallF) (rc : CodeO) : CodeO := fun f p c fr μ orc O =>
  match s.L f p with
  | some ℓ => match ℓ fr μ with
    | some (e, fr', μ', q) => some (e, fr', μ', orc, O ∧ q)
    | none => none
  | none =>
    match c with
    | .skip | .label _ => some (.normal, fr, μ, orc, O)
    | .region _ ops false => regO P E (callO E s rc) ops ops.toList fr μ orc O
    | .region _ ops true => match drawnA P E run0 ops fr μ with
      | some (fr', μ') => some (.normal, fr', μ', orc, O)
      | none => none
    | .seq a b => match rc f (0 :: p) a fr μ orc O with
      | some (.normal, fr', μ', orc', O') => rc f (1 :: p) b fr' μ' orc' O'
      | r => r
    | .cond x a b => bif okOpnd E fr.ev x then (match fr.ev x with
      | .bool t => match pull orc with
        | (.b true, orc') => rc f (0 :: p) a fr μ orc' (O ∧ t = true)
        | (.b false, orc') => rc f (1 :: p) b fr μ orc' (O ∧ t = false)
        | (_, orc') => match t with
          | true => rc f (0 :: p) a fr μ orc' O
          | false => rc f (1 :: p) b fr μ orc' O
      | _ => none) else none
    | .block id a => match rc f (0 :: p) a fr μ orc O with
      | some (.exit id', fr', μ', orc', O') => bif Nat.beq id' id then some (.normal, fr', μ', orc', O') else some (.exit id', fr', μ', orc', O')
      | r => r
    | .scope a => match rc f (0 :: p) a fr μ orc O with
      | some (.goto _, _) => none
      | r => r
    | .loop a => loopO rc f p a mostRounds fr μ orc O
    | .exit id => some (.exit id, fr, μ, orc, O)
    | .ret => some (.ret, fr, μ, orc, O)
    | _ => none

def codeO (P : Program) (E : Env) (s : Sm) (run0 : CallF) : Nat → CodeO
  | 0 => fun _ _ _ _ _ _ _ => none
  | n + 1 => codeStepO P E s run0 (codeO P E s run0 n)
def runO (P : Program) (E : Env) (s : Sm) (run0 : CallF) (n : Nat) : CallO := callO E s (codeO P E s run0 n)

/-! ### Soundness -/
section
variable {P : Program} {E : Env} {pr : Prot} {w0 : World}

def SumOk (P : Program) (pr : Prot) (w0 : World) (ng : Nat) (f : FuncId) (g : SumO) : Prop :=
  ∀ args μ e μ' (p : Prop), g args μ = some (e, μ', p) → p → ∀ ι w, Sim pr w0 ng ι μ w → (∀ x ∈ args, Bd μ.next x) →
    Calls P f (args.map (conc ι)).toArray w fun e' w' => ∃ ι', Ext μ.next ι ι' ∧ μ.next ≤ μ'.next ∧ Sim pr w0 ng ι' μ' w' ∧ EndRel ι' μ'.next e e'
def PieceOk (P : Program) (pr : Prot) (w0 : World) (ng : Nat) (c : Code) (ℓ : PieceO) : Prop :=
  ∀ fr μ e fr' μ' (p : Prop), ℓ fr μ = some (e, fr', μ', p) → p → ∀ ι w a (Q : Exit → Act → World → Prop), Sim pr w0 ng ι μ w → FrRel ι μ.next fr a → Goal pr w0 ng ι μ Q e fr' μ' → c.wp P Q a w
structure SmOk (P : Program) (E : Env) (pr : Prot) (w0 : World) (s : Sm) : Prop where
  S : ∀ f g, s.S f = some g → SumOk P pr w0 E.ng f g
  L : ∀ f p ℓ, s.L f p = some ℓ → ∀ fn c d, E.fn f = some fn → fn.body = some c → sub c p = some d → PieceOk P pr w0 E.ng d ℓ

def CallOkO (P : Program) (pr : Prot) (w0 : World) (ng : Nat) (callF : CallO) : Prop :=
  ∀ f args μ orc O e μ' orc' O', callF f args μ orc O = some (e, μ', orc', O') → (O' → O) ∧ (O' → ∀ ι w, Sim pr w0 ng ι μ w → (∀ x ∈ args, Bd μ.next x) →
    Calls P f (args.map (conc ι)).toArray w fun e' w' => ∃ ι', Ext μ.next ι ι' ∧ μ.next ≤ μ'.next ∧ Sim pr w0 ng ι' μ' w' ∧ EndRel ι' μ'.next e e')
/-- The code is that of this place. -/
def Here (E : Env) (f : FuncId) (p : List Nat) (c : Code) : Prop := ∃ fn b, E.fn f = some fn ∧ fn.body = some b ∧ sub b p = some c
def CodeOkO (P : Program) (E : Env) (pr : Prot) (w0 : World) (rc : CodeO) : Prop :=
  ∀ f p c, Here E f p c → ∀ fr μ orc O e fr' μ' orc' O', rc f p c fr μ orc O = some (e, fr', μ', orc', O') → (O' → O) ∧ (O' → ∀ ι w a (Q : Exit → Act → World → Prop), Sim pr w0 E.ng ι μ w → FrRel ι μ.next fr a → Goal pr w0 E.ng ι μ Q e fr' μ' → c.wp P Q a w)

theorem Here.child {f : FuncId} {p : List Nat} {c d : Code} {i : Nat} (h : Here E f p c) (hd : Abs.child c i = some d) : Here E f (i :: p) d := by
  obtain ⟨fn, b, hf, hb, hs⟩ := h
  exact ⟨fn, b, hf, hb, by simp only [sub, hs, Option.bind_some, hd]⟩

theorem wantO_spec {ops : Array Oper} {fr : Fr} {o : Oper} {orc orc' : List Ans} {O O' : Prop} {d : Bool} (h : wantO ops fr o orc O = (d, orc', O')) : (O' → O) ∧ (O' → wantedA ops fr o = d) := by
  unfold wantO at h
  split at h
  · rename_i hg
    simp only [Prod.mk.injEq] at h
    obtain ⟨rfl, rfl, rfl⟩ := h
    exact ⟨id, fun _ => by simp [wantedA, hg]⟩
  · split at h
    · simp only [Prod.mk.injEq] at h
      obtain ⟨rfl, rfl, rfl⟩ := h
      exact ⟨fun h => h.1, fun h => h.2⟩
    · simp only [Prod.mk.injEq] at h
      obtain ⟨rfl, rfl, rfl⟩ := h
      exact ⟨id, fun _ => rfl⟩

theorem regO_mono {callF : CallO} (hC : CallOkO P pr w0 E.ng callF) (ops : Array Oper) : ∀ (l : List Oper) {fr : Fr} {μ : Hp} {orc : List Ans} {O : Prop} {e : Exit} {fr' : Fr} {μ' : Hp} {orc' : List Ans} {O' : Prop},
    regO P E callF ops l fr μ orc O = some (e, fr', μ', orc', O') → O' → O := by
  intro l
  induction l with
  | nil => intro fr μ orc O e fr' μ' orc' O' h hO; simp only [regO, Option.some.injEq, Prod.mk.injEq] at h; obtain ⟨_, _, _, _, rfl⟩ := h; exact hO
  | cons o rest ih =>
    intro fr μ orc O e fr' μ' orc' O' h hO
    simp only [regO] at h
    split at h
    · cases h
    · rename_i orc1 O1 _ hw
      have hw := wantO_spec hw
      split at h
      · exact hw.1 (ih h hO)
      · cases h
    · rename_i orc1 O1 _ hw
      have hw := wantO_spec hw
      apply hw.1
      split at h
      · split at h
        · exact andO_left (ih h hO)
        · cases h
      · split at h
        · exact andO_left (ih h hO)
        · cases h
      · simp only [Option.some.injEq, Prod.mk.injEq] at h
        obtain ⟨_, _, _, _, rfl⟩ := h
        exact andO_left hO
      · split at h
        · rename_i hc
          split at h
          · exact andO_left ((hC _ _ _ _ _ _ _ _ _ hc).1 (ih h hO))
          · cases h
        · rename_i hc
          simp only [Option.some.injEq, Prod.mk.injEq] at h
          obtain ⟨_, _, _, _, rfl⟩ := h
          exact andO_left ((hC _ _ _ _ _ _ _ _ _ hc).1 hO)
        · cases h
      · cases h

variable (hE : EnvOk P E)
include hE
theorem regO_ok {callF : CallO} (hC : CallOkO P pr w0 E.ng callF) (ops : Array Oper) {Q : Exit → Act → World → Prop} : ∀ (l : List Oper) (k : Nat), ops.toList.drop k = l → ∀ {fr : Fr} {μ : Hp} {orc : List Ans} {O : Prop} {e : Exit} {fr' : Fr} {μ' : Hp} {orc' : List Ans} {O' : Prop},
    regO P E callF ops l fr μ orc O = some (e, fr', μ', orc', O') → O' → ∀ {ι : Ren} {w : World} {a : Act}, Sim pr w0 E.ng ι μ w → FrRel ι μ.next fr a → Goal pr w0 E.ng ι μ Q e fr' μ' → wpOps P ops Q (List.range' k l.length) a w := by
  intro l
  induction l with
  | nil =>
    intro k hk fr μ orc O e fr' μ' orc' O' h hO ι w a hS hF hG
    simp only [regO, Option.some.injEq, Prod.mk.injEq] at h
    obtain ⟨rfl, rfl, rfl, _, _⟩ := h
    exact hG ι a w (Ext.refl _ _) (Nat.le_refl _) hS hF
  | cons o rest ih =>
    intro k hk fr μ orc O e fr' μ' orc' O' h hO ι w a hS hF hG
    have ho : ops[k]? = some o := by
      have h0 : (ops.toList.drop k)[0]? = some o := by rw [hk]; rfl
      rw [List.getElem?_drop] at h0
      simpa using h0
    have hk' : ops.toList.drop (k + 1) = rest := by
      have := congrArg (List.drop 1) hk
      simpa [List.drop_drop] using this
    simp only [regO] at h
    split at h
    · cases h
    · rename_i orc1 O1 hkn hw
      have hw := wantO_spec hw
      split at h
      · rename_i fr1 hp
        have hO1 := regO_mono hC ops rest h hO
        simp only [List.length_cons, List.range'_succ, wpOps, ho, wanted_eq hF ops o hkn, hw.2 hO1, Bool.false_eq_true, if_false]
        have := hF.put hp (by simp)
        rw [conc_undef] at this
        exact ih (k + 1) hk' h hO hS this hG
      · cases h
    · rename_i orc1 O1 hkn hw
      have hw := wantO_spec hw
      split at h
      · rename_i v μ1 q hop
        split at h
        · rename_i fr1 hp
          have hO1 := regO_mono hC ops rest h hO
          simp only [List.length_cons, List.range'_succ, wpOps, ho, wanted_eq hF ops o hkn, hw.2 (andO_left hO1), if_true]
          left
          have hrel := op_rel (ng := E.ng) hE hS o a.eval fr.ev (fun x _ hx => ev_ok hS hF x hx)
          unfold Oper.wp
          rw [opS_ok hop (andO_right hO1)] at hrel
          obtain ⟨ι', w', hr, hS', hx, hl, hb⟩ := hrel
          have hF' := (hF.mono hx hl).put hp hb
          have hnext := ih (k + 1) hk' h hO hS' hF' (hG.weaken hx hl)
          rcases hr with hr | ⟨hr, rfl⟩
          · rw [hr]; exact hnext
          · rw [hr]; rw [conc_undef] at hnext; exact hnext
        · cases h
      · rename_i d μ1 q hop
        split at h
        · rename_i fr1 hp
          have hO1 := regO_mono hC ops rest h hO
          simp only [List.length_cons, List.range'_succ, wpOps, ho, wanted_eq hF ops o hkn, hw.2 (andO_left hO1), if_true]
          left
          have hrel := op_rel (ng := E.ng) hE hS o a.eval fr.ev (fun x _ hx => ev_ok hS hF x hx)
          unfold Oper.wp
          rw [opS_ok hop (andO_right hO1)] at hrel
          obtain ⟨rfl, hr, hb⟩ := hrel
          rw [hr]
          have := (hF.defer hb).put hp (by simp)
          rw [conc_undef] at this
          exact ih (k + 1) hk' h hO hS this hG
        · cases h
      · rename_i v μ1 q hop
        simp only [Option.some.injEq, Prod.mk.injEq] at h
        obtain ⟨rfl, rfl, rfl, _, rfl⟩ := h
        simp only [List.length_cons, List.range'_succ, wpOps, ho, wanted_eq hF ops o hkn, hw.2 (andO_left hO), if_true]
        left
        have hrel := op_rel (ng := E.ng) hE hS o a.eval fr.ev (fun x _ hx => ev_ok hS hF x hx)
        unfold Oper.wp
        rw [opS_ok hop (andO_right hO)] at hrel
        obtain ⟨rfl, hr, hb⟩ := hrel
        rw [hr]
        have := hG ι a w (Ext.refl _ _) (Nat.le_refl _) hS hF (by simp; exact hb)
        simpa [concP, Oper.upon] using this
      · rename_i f args μ1 q hop
        have hO1 : andO O1 q := by
          split at h
          · rename_i hc
            split at h
            · exact (hC _ _ _ _ _ _ _ _ _ hc).1 (regO_mono hC ops rest h hO)
            · cases h
          · rename_i hc
            simp only [Option.some.injEq, Prod.mk.injEq] at h
            obtain ⟨_, _, _, _, rfl⟩ := h
            exact (hC _ _ _ _ _ _ _ _ _ hc).1 hO
          · cases h
        simp only [List.length_cons, List.range'_succ, wpOps, ho, wanted_eq hF ops o hkn, hw.2 (andO_left hO1), if_true]
        left
        have hrel := op_rel (ng := E.ng) hE hS o a.eval fr.ev (fun x _ hx => ev_ok hS hF x hx)
        unfold Oper.wp
        rw [opS_ok hop (andO_right hO1)] at hrel
        obtain ⟨hμ, hr, hb⟩ := hrel
        subst hμ
        rw [hr]
        split at h
        · rename_i v μ2 orc3 O3 hc
          split at h
          · rename_i fr1 hp
            have hO3 := regO_mono hC ops rest h hO
            refine ((hC _ _ _ _ _ _ _ _ _ hc).2 hO3 ι w hS hb).mono ?_
            rintro e' w' ⟨ι', hx, hl, hS', hend⟩
            cases e' with
            | returned v' =>
              obtain ⟨rfl, hbv⟩ := hend
              exact ih (k + 1) hk' h hO hS' ((hF.mono hx hl).put hp hbv) (hG.weaken hx hl)
            | _ => exact hend.elim
          · cases h
        · rename_i ch μ2 orc3 O3 hc
          simp only [Option.some.injEq, Prod.mk.injEq] at h
          obtain ⟨rfl, rfl, rfl, _, rfl⟩ := h
          refine ((hC _ _ _ _ _ _ _ _ _ hc).2 hO ι w hS hb).mono ?_
          rintro e' w' ⟨ι', hx, hl, hS', hend⟩
          cases e' with
          | panicked ch' =>
            obtain ⟨rfl, hbv⟩ := hend
            exact hG ι' a w' hx hl hS' (hF.mono hx hl) hbv
          | _ => exact hend.elim
        · cases h
      · cases h

theorem leaveO_ok {fn : Func} {c : Code} {f : FuncId} {args : List Value} {fr : Fr} {rc : CodeO} (hrc : CodeOkO P E pr w0 rc) (hf : E.fn f = some fn) (hc : fn.body = some c) (hen : Fr.enter fn args = some fr)
    {μ : Hp} {orc : List Ans} {O : Prop} {e : Ending} {μ' : Hp} {orc' : List Ans} {O' : Prop} (h : leaveO E fn (rc f [] c fr μ orc O) = some (e, μ', orc', O')) :
    (O' → O) ∧ (O' → ∀ ι w, Sim pr w0 E.ng ι μ w → (∀ x ∈ args, Bd μ.next x) →
    Calls P f (args.map (conc ι)).toArray w fun e' w' => ∃ ι', Ext μ.next ι ι' ∧ μ.next ≤ μ'.next ∧ Sim pr w0 E.ng ι' μ' w' ∧ EndRel ι' μ'.next e e') := by
  have hhere : Here E f [] c := ⟨fn, c, hf, hc, rfl⟩
  cases hr : rc f [] c fr μ orc O with
  | none => rw [hr] at h; simp [leaveO] at h
  | some q =>
    obtain ⟨ex, fr', μ1, orc1, O1⟩ := q
    rw [hr] at h
    obtain ⟨hm, hok⟩ := hrc f [] c hhere _ _ _ _ _ _ _ _ _ hr
    have hO' : O' = O1 := by
      unfold leaveO at h
      split at h
      · rename_i heq; simp only [Option.some.injEq, Prod.mk.injEq] at heq; obtain ⟨rfl, rfl, rfl, rfl, rfl⟩ := heq
        split at h
        · split at h
          · simp only [Option.some.injEq, Prod.mk.injEq] at h; exact h.2.2.2.symm
          · cases h
        · cases h
      · rename_i heq; simp only [Option.some.injEq, Prod.mk.injEq] at heq; obtain ⟨rfl, rfl, rfl, rfl, rfl⟩ := heq
        split at h
        · split at h
          · simp only [Option.some.injEq, Prod.mk.injEq] at h; exact h.2.2.2.symm
          · cases h
        · cases h
      · rename_i heq; simp only [Option.some.injEq, Prod.mk.injEq] at heq; obtain ⟨rfl, rfl, rfl, rfl, rfl⟩ := heq
        split at h
        · simp only [Option.some.injEq, Prod.mk.injEq] at h; exact h.2.2.2.symm
        · cases h
      · cases h
    subst hO'
    refine ⟨hm, fun hO ι w hS hb => ?_⟩
    have hfn := (hE.fn f fn hf).1
    have hfr := enter_ok (ι := ι) hen hb
    refine calls_of_wp hfn hc ?_
    refine hok hO ι w _ _ hS hfr ?_
    have h2 : leaveA E fn (some (ex, fr', μ1)) = some (e, μ') := by
      unfold leaveO at h
      unfold leaveA
      cases ex <;> simp only at h ⊢ <;> (try (cases h; done)) <;> (cases hd : fr'.df <;> rw [hd] at h <;> simp only at h ⊢) <;> (try (cases h; done))
      · cases hvs : resultsA E fr' μ1 fn.results.toList <;> rw [hvs] at h <;> simp at h
        simp [h]
      · cases hvs : resultsA E fr' μ1 fn.results.toList <;> rw [hvs] at h <;> simp at h
        simp [h]
      · simp at h
        simp [h]
    clear h
    have fin : ∀ (k : Exit), (k = .normal ∨ k = .ret) → leaveA E fn (some (k, fr', μ1)) = some (e, μ') → Goal pr w0 E.ng ι μ (bodyPost P fn fun e' w' => ∃ ι', Ext μ.next ι ι' ∧ μ.next ≤ μ'.next ∧ Sim pr w0 E.ng ι' μ' w' ∧ EndRel ι' μ'.next e e') k fr' μ1 := by
      intro k hk h
      have h' : (match fr'.df with
        | [] => match resultsA E fr' μ1 fn.results.toList with
          | some vs => some (Ending.returned (packed vs), μ1)
          | none => none
        | _ :: _ => none) = some (e, μ') := by rcases hk with rfl | rfl <;> exact h
      cases hd : fr'.df with
      | cons d ds => rw [hd] at h'; cases h'
      | nil =>
        rw [hd] at h'
        cases hvs : resultsA E fr' μ1 fn.results.toList with
        | none => simp [hvs] at h'
        | some vs =>
          simp [hvs] at h'
          obtain ⟨rfl, rfl⟩ := h'
          have main : ∀ ι' a' w', Ext μ.next ι ι' → μ.next ≤ μ1.next → Sim pr w0 E.ng ι' μ1 w' → FrRel ι' μ1.next fr' a' → a'.defers = [] ∧ ∃ v, (results fn a'.tmps).run P w' = .ok v w' ∧
              ∃ ι', Ext μ.next ι ι' ∧ μ.next ≤ μ1.next ∧ Sim pr w0 E.ng ι' μ1 w' ∧ EndRel ι' μ1.next (.returned (packed vs)) (.returned v) := by
            intro ι' a' w' hx hl hS' hF'
            obtain ⟨h1, h2⟩ := results_ok hE hS' hF' hvs
            exact ⟨by rw [hF'.df, hd]; rfl, _, h1, ι', hx, hl, hS', rfl, h2⟩
          rcases hk with rfl | rfl <;> exact main
    cases ex with
    | normal => exact fin .normal (.inl rfl) h2
    | ret => exact fin .ret (.inr rfl) h2
    | panic ch =>
      simp only [leaveA] at h2
      cases hd : fr'.df with
      | cons d ds => rw [hd] at h2; cases h2
      | nil =>
        rw [hd] at h2
        simp at h2
        obtain ⟨rfl, rfl⟩ := h2
        intro ι' a' w' hx hl hS' hF' hbp
        exact ⟨by rw [hF'.df, hd]; rfl, ι', hx, hl, hS', rfl, hbp⟩
    | exit id => simp [leaveA] at h2
    | goto l => simp [leaveA] at h2
    | outgrown => simp [leaveA] at h2

theorem callO_ok {s : Sm} (hs : SmOk P E pr w0 s) {rc : CodeO} (hrc : CodeOkO P E pr w0 rc) : CallOkO P pr w0 E.ng (callO E s rc) := by
  intro f args μ orc O e μ' orc' O' h
  unfold callO at h
  cases hS : s.S f with
  | some g =>
    simp only [hS] at h
    split at h
    · rename_i e1 μ1 p hg
      simp only [Option.some.injEq, Prod.mk.injEq] at h
      obtain ⟨rfl, rfl, _, rfl⟩ := h
      exact ⟨fun h => h.1, fun h ι w hS' hb => hs.S f g hS args μ _ _ p hg h.2 ι w hS' hb⟩
    · cases h
  | none =>
    simp only [hS] at h
    cases hf : E.fn f with
    | none => simp [hf] at h
    | some fn =>
      simp only [hf] at h
      cases hc : fn.body with
      | none => simp [hc] at h
      | some c =>
        cases hen : Fr.enter fn args with
        | none => simp [hc, hen] at h
        | some fr =>
          simp only [hc, hen] at h
          exact leaveO_ok hE hrc hf hc hen h

omit hE in
theorem loopO_ok {rc : CodeO} (hrc : CodeOkO P E pr w0 rc) {f : FuncId} {p : List Nat} {c : Code} (hh : Here E f (0 :: p) c) : ∀ (n : Nat) {fr : Fr} {μ : Hp} {orc : List Ans} {O : Prop} {e : Exit} {fr' : Fr} {μ' : Hp} {orc' : List Ans} {O' : Prop},
    loopO rc f p c n fr μ orc O = some (e, fr', μ', orc', O') → (O' → O) ∧ (O' → ∀ {ι : Ren} {w : World} {a : Act} {Q : Exit → Act → World → Prop},
    Sim pr w0 E.ng ι μ w → FrRel ι μ.next fr a → Goal pr w0 E.ng ι μ Q e fr' μ' → Code.rounds P c Q n a w) := by
  intro n
  induction n with
  | zero => intro fr μ orc O e fr' μ' orc' O' h; simp [loopO] at h
  | succ n ih =>
    intro fr μ orc O e fr' μ' orc' O' h
    simp only [loopO] at h
    cases hr : rc f (0 :: p) c fr μ orc O with
    | none => simp [hr] at h
    | some q =>
      obtain ⟨e1, fr1, μ1, orc1, O1⟩ := q
      obtain ⟨hm, hok⟩ := hrc f (0 :: p) c hh _ _ _ _ _ _ _ _ _ hr
      cases e1 with
      | normal =>
        simp only [hr] at h
        obtain ⟨hm2, hok2⟩ := ih h
        refine ⟨fun hO => hm (hm2 hO), fun hO ι w a Q hS hF hG => ?_⟩
        refine hok (hm2 hO) ι w a _ hS hF ?_
        intro ι' a' w' hx hl hS' hF'
        exact hok2 hO hS' hF' (hG.weaken hx hl)
      | _ =>
        simp only [hr, Option.some.injEq, Prod.mk.injEq] at h
        obtain ⟨rfl, rfl, rfl, _, rfl⟩ := h
        refine ⟨hm, fun hO ι w a Q hS hF hG => hok hO ι w a _ hS hF hG⟩

theorem codeStepO_ok (hmix : P.follows .mixedOrders = true) {s : Sm} (hs : SmOk P E pr w0 s) {run0 : CallF} (h0 : CallsOk P pr w0 E.ng run0) {rc : CodeO} (hrc : CodeOkO P E pr w0 rc) : CodeOkO P E pr w0 (codeStepO P E s run0 rc) := by
  intro f p c hh fr μ orc O e fr' μ' orc' O' h
  have hC := callO_ok hE hs hrc
  unfold codeStepO at h
  cases hL : s.L f p with
  | some ℓ =>
    simp only [hL] at h
    split at h
    · rename_i e1 fr1 μ1 q hl
      simp only [Option.some.injEq, Prod.mk.injEq] at h
      obtain ⟨rfl, rfl, rfl, _, rfl⟩ := h
      refine ⟨fun h => h.1, fun h ι w a Q hS hF hG => ?_⟩
      obtain ⟨fn, b, hf, hb, hsub⟩ := hh
      exact hs.L f p ℓ hL fn b c hf hb hsub fr μ _ _ _ q hl h.2 ι w a Q hS hF hG
    · cases h
  | none =>
    simp only [hL] at h
    cases c with
    | skip => simp only [Option.some.injEq, Prod.mk.injEq] at h; obtain ⟨rfl, rfl, rfl, _, rfl⟩ := h; exact ⟨id, fun _ ι w a Q hS hF hG => wp_skip (hG ι a w (Ext.refl _ _) (Nat.le_refl _) hS hF)⟩
    | label l => simp only [Option.some.injEq, Prod.mk.injEq] at h; obtain ⟨rfl, rfl, rfl, _, rfl⟩ := h; exact ⟨id, fun _ ι w a Q hS hF hG => wp_label (hG ι a w (Ext.refl _ _) (Nat.le_refl _) hS hF)⟩
    | exit id' => simp only [Option.some.injEq, Prod.mk.injEq] at h; obtain ⟨rfl, rfl, rfl, _, rfl⟩ := h; exact ⟨id, fun _ ι w a Q hS hF hG => wp_exit (hG ι a w (Ext.refl _ _) (Nat.le_refl _) hS hF)⟩
    | ret => simp only [Option.some.injEq, Prod.mk.injEq] at h; obtain ⟨rfl, rfl, rfl, _, rfl⟩ := h; exact ⟨id, fun _ ι w a Q hS hF hG => wp_ret (hG ι a w (Ext.refl _ _) (Nat.le_refl _) hS hF)⟩
    | goto l => simp at h
    | refuse y => simp at h
    | rangeFunc f ps x y => simp at h
    | region id ops draw =>
      cases draw with
      | false =>
        simp only at h
        refine ⟨regO_mono hC ops _ h, fun hO ι w a Q hS hF hG => wp_region ?_⟩
        have hlen : List.range ops.size = List.range' 0 ops.toList.length := by simp [List.range_eq_range']
        rw [hlen]
        exact regO_ok hE hC ops ops.toList 0 (by simp) h hO hS hF hG
      | true =>
        simp only at h
        cases hr : drawnA P E run0 ops fr μ with
        | none => simp [hr] at h
        | some q =>
          obtain ⟨f1, m1⟩ := q
          simp only [hr, Option.some.injEq, Prod.mk.injEq] at h
          obtain ⟨rfl, rfl, rfl, _, rfl⟩ := h
          exact ⟨fun h => h, fun _ ι w a Q hS hF hG => wp_region_any hmix (drawn_ok hE h0 hr hS.drew hF hG)⟩
    | seq x y =>
      simp only at h
      cases hr : rc f (0 :: p) x fr μ orc O with
      | none => simp [hr] at h
      | some q =>
        obtain ⟨e1, fr1, μ1, orc1, O1⟩ := q
        obtain ⟨hm, hok⟩ := hrc f (0 :: p) x (hh.child rfl) _ _ _ _ _ _ _ _ _ hr
        cases e1 with
        | normal =>
          simp only [hr] at h
          obtain ⟨hm2, hok2⟩ := hrc f (1 :: p) y (hh.child rfl) _ _ _ _ _ _ _ _ _ h
          refine ⟨fun hO => hm (hm2 hO), fun hO ι w a Q hS hF hG => wp_seq ?_⟩
          refine hok (hm2 hO) ι w a _ hS hF ?_
          intro ι' a' w' hx hl hS' hF'
          exact hok2 hO ι' w' a' Q hS' hF' (hG.weaken hx hl)
        | _ =>
          simp only [hr, Option.some.injEq, Prod.mk.injEq] at h
          obtain ⟨rfl, rfl, rfl, _, rfl⟩ := h
          exact ⟨hm, fun hO ι w a Q hS hF hG => wp_seq (hok hO ι w a _ hS hF hG)⟩
    | cond x y z =>
      simp only at h
      cases ho : okOpnd E fr.ev x with
      | false => simp [ho] at h
      | true =>
        simp only [ho, cond_true] at h
        have hev : ∀ {ι : Ren} {w : World} {a : Act} {t : Bool}, Sim pr w0 E.ng ι μ w → FrRel ι μ.next fr a → fr.ev x = .bool t → a.eval x = .bool t := by
          intro ι w a t hS hF hb
          have := (ev_ok hS hF x ho).1
          rw [hb, conc_bool] at this
          exact this
        split at h
        · rename_i t hb
          split at h
          · obtain ⟨hm, hok⟩ := hrc f (0 :: p) y (hh.child rfl) _ _ _ _ _ _ _ _ _ h
            refine ⟨fun hO => (hm hO).1, fun hO ι w a Q hS hF hG => ?_⟩
            have ht := (hm hO).2
            subst ht
            exact wp_cond_true (hev hS hF hb) (hok hO ι w a Q hS hF hG)
          · obtain ⟨hm, hok⟩ := hrc f (1 :: p) z (hh.child rfl) _ _ _ _ _ _ _ _ _ h
            refine ⟨fun hO => (hm hO).1, fun hO ι w a Q hS hF hG => ?_⟩
            have ht := (hm hO).2
            subst ht
            exact wp_cond_false (hev hS hF hb) (hok hO ι w a Q hS hF hG)
          · split at h
            · obtain ⟨hm, hok⟩ := hrc f (0 :: p) y (hh.child rfl) _ _ _ _ _ _ _ _ _ h
              exact ⟨hm, fun hO ι w a Q hS hF hG => wp_cond_true (hev hS hF hb) (hok hO ι w a Q hS hF hG)⟩
            · obtain ⟨hm, hok⟩ := hrc f (1 :: p) z (hh.child rfl) _ _ _ _ _ _ _ _ _ h
              exact ⟨hm, fun hO ι w a Q hS hF hG => wp_cond_false (hev hS hF hb) (hok hO ι w a Q hS hF hG)⟩
        · cases h
    | block id x =>
      simp only at h
      cases hr : rc f (0 :: p) x fr μ orc O with
      | none => simp [hr] at h
      | some q =>
        obtain ⟨e1, fr1, μ1, orc1, O1⟩ := q
        obtain ⟨hm, hok⟩ := hrc f (0 :: p) x (hh.child rfl) _ _ _ _ _ _ _ _ _ hr
        cases e1 with
        | exit id' =>
          simp only [hr] at h
          cases hid : Nat.beq id' id with
          | true =>
            simp only [hid, cond_true, Option.some.injEq, Prod.mk.injEq] at h
            obtain ⟨rfl, rfl, rfl, _, rfl⟩ := h
            have := beq_yes hid
            refine ⟨hm, fun hO ι w a Q hS hF hG => wp_block (hok hO ι w a _ hS hF ?_)⟩
            intro ι' a' w' hx hl hS' hF'
            simp only [Exit.inBlock, this, if_true]
            exact hG ι' a' w' hx hl hS' hF'
          | false =>
            simp only [hid, cond_false, Option.some.injEq, Prod.mk.injEq] at h
            obtain ⟨rfl, rfl, rfl, _, rfl⟩ := h
            have := Nat.ne_of_beq_eq_false hid
            refine ⟨hm, fun hO ι w a Q hS hF hG => wp_block (hok hO ι w a _ hS hF ?_)⟩
            intro ι' a' w' hx hl hS' hF'
            simp only [Exit.inBlock, if_neg this]
            exact hG ι' a' w' hx hl hS' hF'
        | _ =>
          simp only [hr, Option.some.injEq, Prod.mk.injEq] at h
          obtain ⟨rfl, rfl, rfl, _, rfl⟩ := h
          exact ⟨hm, fun hO ι w a Q hS hF hG => wp_block (hok hO ι w a _ hS hF hG)⟩
    | scope x =>
      simp only at h
      cases hr : rc f (0 :: p) x fr μ orc O with
      | none => simp [hr] at h
      | some q =>
        obtain ⟨e1, fr1, μ1, orc1, O1⟩ := q
        obtain ⟨hm, hok⟩ := hrc f (0 :: p) x (hh.child rfl) _ _ _ _ _ _ _ _ _ hr
        cases e1 with
        | goto l => simp [hr] at h
        | _ =>
          simp only [hr, Option.some.injEq, Prod.mk.injEq] at h
          obtain ⟨rfl, rfl, rfl, _, rfl⟩ := h
          exact ⟨hm, fun hO ι w a Q hS hF hG => wp_scope_straight (hok hO ι w a _ hS hF hG)⟩
    | loop x =>
      simp only at h
      obtain ⟨hm, hok⟩ := loopO_ok hrc (hh.child rfl) mostRounds h
      exact ⟨hm, fun hO ι w a Q hS hF hG => wp_loop_rounds mostRounds (hok hO hS hF hG)⟩

theorem codeO_ok (hmix : P.follows .mixedOrders = true) {s : Sm} (hs : SmOk P E pr w0 s) {run0 : CallF} (h0 : CallsOk P pr w0 E.ng run0) : ∀ n, CodeOkO P E pr w0 (codeO P E s run0 n)
  | 0 => by intro f p c hh fr μ orc O e fr' μ' orc' O' h; simp [codeO] at h
  | n + 1 => codeStepO_ok hE hmix hs h0 (codeO_ok hmix hs h0 n)
theorem runO_ok (hmix : P.follows .mixedOrders = true) {s : Sm} (hs : SmOk P E pr w0 s) {run0 : CallF} (h0 : CallsOk P pr w0 E.ng run0) (n : Nat) : CallOkO P pr w0 E.ng (runO P E s run0 n) :=
  callO_ok hE hs (codeO_ok hE hmix hs h0 n)
end
end Go.Abs
end

section
/-
  The abstract machine: names are turned, and what is not needed is forgotten.
-/
namespace Go.Abs
set_option linter.unusedVariables false
set_option linter.unusedSimpArgs false
set_option linter.unusedSectionVars false

/-! ### Other names -/
def upV (σ : Nat → Nat) : Value → Value
  | .pointer (some a) => .pointer (some { a with block := σ a.block })
  | .slice (some a) l c => .slice (some { a with block := σ a.block }) l c
  | .map (some r) => .map (some (σ r))
  | .func fn f c => .func fn (f.map fun x => upV σ x) (c.map fun x => upV σ x)
  | .iface t v => .iface t (upV σ v)
  | .agg cs => .agg (cs.map fun x => upV σ x)
  | .tuple cs => .tuple (cs.map fun x => upV σ x)
  | .chan (some l) => .chan (some (σ l))
  | v => v
def Ren.via (ι : Ren) (σ : Nat → Nat) : Ren := { loc := fun n => ι.loc (σ n), ext := fun n => ι.ext (σ n), opq := fun n => ι.opq (σ n) }
theorem conc_up (ι : Ren) (σ : Nat → Nat) : ∀ (v : Value), conc ι (upV σ v) = conc (ι.via σ) v
  | .pointer (some a) => by simp [upV, Ren.addr, Ren.via]
  | .slice (some a) l c => by simp [upV, Ren.addr, Ren.via, Ren.cap]
  | .map (some r) => by simp [upV, Ren.via]
  | .func fn f c => by
    simp only [upV, conc_func, Array.map_map]
    rw [Array.map_congr_left (f := conc ι ∘ fun x => upV σ x) (g := conc (ι.via σ)) (xs := f) fun x hx => conc_up ι σ x, Array.map_congr_left (f := conc ι ∘ fun x => upV σ x) (g := conc (ι.via σ)) (xs := c) fun x hx => conc_up ι σ x]
  | .iface t v => by simp [upV, conc_up ι σ v]
  | .agg cs => by
    simp only [upV, conc_agg, Array.map_map]
    rw [Array.map_congr_left (f := conc ι ∘ fun x => upV σ x) (g := conc (ι.via σ)) (xs := cs) fun x hx => conc_up ι σ x]
  | .tuple cs => by
    simp only [upV, conc_tuple, Array.map_map]
    rw [Array.map_congr_left (f := conc ι ∘ fun x => upV σ x) (g := conc (ι.via σ)) (xs := cs) fun x hx => conc_up ι σ x]
  | .chan none => by simp [upV, conc]
  | .chan (some l) => by simp [upV, Ren.via, Ren.chan]
  | .bool _ | .int _ _ | .float _ _ | .complex _ _ _ | .string _ | .pointer none | .slice none _ _ | .map none | .nilFunc | .nilIface => by simp [upV]
/-- The names of a value that has others in the place of a value's lie where those lie. -/
theorem Bd_up {N M : Nat} {σ : Nat → Nat} (h : ∀ n, n < N → σ n < M) : ∀ (v : Value), Bd N v → Bd M (upV σ v)
  | .pointer (some a), hv => by simp [upV] at *; exact h _ hv
  | .slice (some a) l c, hv => by simp [upV] at *; exact h _ hv
  | .map (some r), hv => by simp [upV] at *; exact h _ hv
  | .func fn f c, hv => by
    simp only [upV, Bd_func] at *
    refine ⟨fun x hx => ?_, fun x hx => ?_⟩
    · obtain ⟨y, hy, rfl⟩ := Array.mem_map.1 hx; exact Bd_up h y (hv.1 y hy)
    · obtain ⟨y, hy, rfl⟩ := Array.mem_map.1 hx; exact Bd_up h y (hv.2 y hy)
  | .iface t v, hv => by simp [upV] at *; exact Bd_up h v hv
  | .agg cs, hv => by
    simp only [upV, Bd_agg] at *
    intro x hx
    obtain ⟨y, hy, rfl⟩ := Array.mem_map.1 hx; exact Bd_up h y (hv y hy)
  | .tuple cs, hv => by
    simp only [upV, Bd_tuple] at *
    intro x hx
    obtain ⟨y, hy, rfl⟩ := Array.mem_map.1 hx; exact Bd_up h y (hv y hy)
  | .chan none, hv => by simp at hv
  | .chan (some l), hv => by simp [upV] at *; exact h _ hv
  | .bool _, _ | .int _ _, _ | .float _ _, _ | .complex _ _ _, _ | .string _, _ | .pointer none, _ | .slice none _ _, _ | .map none, _ | .nilFunc, _ | .nilIface, _ => by simp [upV]

theorem notP_up {σ : Nat → Nat} {v : Value} (h : notP v = true) : notP (upV σ v) = true := by
  match v, h with
  | .pointer (some a), h | .slice (some a) l c, h | .map (some r), h | .func fn f c, h | .iface t v, h | .agg cs, h | .tuple cs, h => simp [upV, notP]
  | .chan none, h => simp [notP] at h
  | .chan (some l), h => simp [upV, notP]
  | .bool _, _ | .int _ _, _ | .float _ _, _ | .complex _ _ _, _ | .string _, _ | .pointer none, _ | .slice none _ _, _ | .map none, _ | .nilFunc, _ | .nilIface, _ => simp [upV, notP]
theorem notP_down {σ : Nat → Nat} {v : Value} (h : notP (upV σ v) = true) : notP v = true := by
  match v, h with
  | .pointer (some a), h | .slice (some a) l c, h | .map (some r), h | .func fn f c, h | .iface t v, h | .agg cs, h | .tuple cs, h => simp [notP]
  | .chan none, h => simp [upV, notP] at h
  | .chan (some l), h => simp [notP]
  | .bool _, _ | .int _ _, _ | .float _ _, _ | .complex _ _ _, _ | .string _, _ | .pointer none, _ | .slice none _ _, _ | .map none, _ | .nilFunc, _ | .nilIface, _ => simp [notP]
def Tr.map {α β : Type} (f : α → β) : Tr α → Tr β
  | .e => .e
  | .n v l r => .n (v.map f) (l.map f) (r.map f)
theorem Tr.map_get {α β : Type} (f : α → β) : ∀ (t : Tr α) (k : Nat), (t.map f).get k = (t.get k).map f
  | .e, k => rfl
  | .n v l r, k => by
    simp only [Tr.map, Tr.get, Tr.map_get f l, Tr.map_get f r]
    cases Nat.beq k 0 <;> cases Nat.beq (k % 2) 1 <;> rfl

def upE (σ : Nat → Nat) (e : MapEntry) : MapEntry := { key := upV σ e.key, val := upV σ e.val, born := e.born }
def upO (σ : Nat → Nat) : AObj → AObj
  | .cells vs es => .cells (vs.map (upV σ)) es
  | .map es clock => .map (es.map (upE σ)) clock
  | .sIter s pos => .sIter s pos
  | .mIter m since seen st => .mIter (m.map σ) since seen st
  | .loop L => .loop { L with t := L.t.map (upV σ), d := upV σ L.d, df := σ L.df }
  | .dfd b => .dfd b
  | .rov vs => .rov vs
  | .ro ds => .ro ds
  | .dead => .dead
theorem upO_live (σ : Nat → Nat) (o : AObj) : (upO σ o).live = o.live := by cases o <;> rfl

/-- All names in it are below N. -/
def BdO (N : Nat) : AObj → Prop
  | .cells vs _ => ∀ v ∈ vs, Bd N v
  | .map es _ => ∀ e ∈ es, Bd N e.key ∧ Bd N e.val
  | .mIter m _ _ _ => ∀ r, m = some r → r < N
  | .loop L => L.df < N ∧ L.sz < limit ∧ ∀ t, notP ((L.t.get t).getD L.d) = true → Bd N ((L.t.get t).getD L.d)
  | _ => True

theorem ObjOk.up {ι : Ren} {σ : Nat → Nat} {N M : Nat} {w : World} {n : Nat} {o : AObj} (h : ObjOk ι M w (σ n) (upO σ o)) (hb : BdO N o) : ObjOk (ι.via σ) N w n o := by
  cases o with
  | cells vs es =>
    refine ⟨fun i v hv => ?_, fun i hi => ?_⟩
    · have := h.1 i (upV σ v) (by simp [upO, hv])
      exact ⟨by rw [← conc_up]; exact this.1, hb v (List.mem_of_getElem? hv)⟩
    · exact h.2 i (by simpa [upO, Ren.via] using hi)
  | map es clock =>
    obtain ⟨h0, h1, h2⟩ := h
    refine ⟨h0, ?_, hb⟩
    rw [show (ι.via σ).loc n = ι.loc (σ n) from rfl, h1]
    congr 3
    rw [List.map_map]
    exact List.map_congr_left fun e he => by simp [concE, upE, conc_up]
  | sIter s pos => exact h
  | mIter m since seen st =>
    obtain ⟨h0, h1, h2⟩ := h
    refine ⟨h0, ?_, hb⟩
    rw [show (ι.via σ).loc n = ι.loc (σ n) from rfl, h1]
    cases m <;> rfl
  | loop L =>
    obtain ⟨h0, h1, h2, tmps, h3, h4, h5⟩ := h
    obtain ⟨b1, b2, b3⟩ := hb
    refine ⟨h0, b1, b2, tmps, h3, h4, fun t ht => ?_⟩
    have hg : ((L.t.map (upV σ)).get t).getD (upV σ L.d) = upV σ ((L.t.get t).getD L.d) := by rw [Tr.map_get]; cases L.t.get t <;> rfl
    have := h5 t (by simp only [hg]; exact notP_up ht)
    simp only [hg] at this
    exact ⟨by rw [← conc_up]; exact this.1, b3 t ht⟩
  | dfd b => exact h
  | rov vs => trivial
  | ro ds => trivial
  | dead => trivial

section
variable {pr : Prot} {w0 : World} {ι : Ren} {μ : Hp} {w : World}

/-- A heap of which some names are kept, perhaps under others. -/
structure Keeps (σ : Nat → Nat) (μ μc : Hp) : Prop where
  lt : ∀ n o, μc.get n = some o → n < μc.next
  obj : ∀ n o, μc.get n = some o → μ.get (σ n) = some (upO σ o)
  bd : ∀ n o, μc.get n = some o → BdO μc.next o
  inj : ∀ n m o o', μc.get n = some o → μc.get m = some o' → o.live = true → o'.live = true → n ≠ m → σ n ≠ σ m
  lim : μc.next ≤ limit

theorem Sim.keeps (h : Sim pr w0 0 ι μ w) {σ : Nat → Nat} {μc : Hp} (hk : Keeps σ μ μc) : Sim pr w0 0 (ι.via σ) μc w where
  os := h.os
  tape := h.tape
  output := h.output
  size := h.size
  prot := h.prot
  lt := hk.lt
  obj n o hg := (h.obj _ _ (hk.obj n o hg)).up (hk.bd n o hg)
  blk n o hg hl := h.blk _ _ (hk.obj n o hg) (by rw [upO_live]; exact hl)
  free n o hg hl := h.free _ _ (hk.obj n o hg) (by rw [upO_live]; exact hl)
  inj n m o o' hg hg' hl hl' hne := h.inj _ _ _ _ (hk.obj n o hg) (hk.obj m o' hg') (by rw [upO_live]; exact hl) (by rw [upO_live]; exact hl') (hk.inj n m o o' hg hg' hl hl' hne)
  lim := hk.lim
  glob g hg := by omega
  ro n o hg := by
    have := h.ro _ _ (hk.obj n o hg)
    cases o <;> exact this

/-- A frame of which some slots are kept. -/
structure KeepsF (σ : Nat → Nat) (N : Nat) (fr frc : Fr) : Prop where
  sz : frc.sz = fr.sz
  tmp : ∀ t, notP (frc.get t) = true → fr.get t = upV σ (frc.get t) ∧ Bd N (frc.get t)
  df : fr.df = [] ∧ frc.df = []
theorem FrRel.keeps {N M : Nat} {fr : Fr} {a : Act} (h : FrRel ι N fr a) {σ : Nat → Nat} {frc : Fr} (hk : KeepsF σ M fr frc) : FrRel (ι.via σ) M frc a where
  size := by rw [hk.sz]; exact h.size
  lim := by rw [hk.sz]; exact h.lim
  tmp t ht := by
    obtain ⟨h1, h2⟩ := hk.tmp t ht
    obtain ⟨h3, _⟩ := h.tmp t (by rw [h1]; exact notP_up ht)
    exact ⟨by rw [h3, h1, conc_up], h2⟩
  df := by rw [h.df, hk.df.1, hk.df.2]; rfl
  bd d hd := by rw [hk.df.2] at hd; simp at hd

theorem Ext.via {N : Nat} {σ : Nat → Nat} (h : ∀ n, n < N → σ n = n) : Ext N ι (ι.via σ) :=
  ⟨fun n hn => by simp [Ren.via, h n hn], fun n hn => by simp [Ren.via, h n hn], fun n hn => by simp [Ren.via, h n hn]⟩
end
end Go.Abs
end

section
/-
  The abstract machine: what a piece of code comes to, as a relation; loops; what is forgotten on the way.
-/
namespace Go.Abs
set_option linter.unusedVariables false
set_option linter.unusedSimpArgs false
set_option linter.unusedSectionVars false

def concX (ι : Ren) : Exit → Exit
  | .panic ch => .panic (ch.map (concP ι))
  | e => e
def BdX (N : Nat) : Exit → Prop
  | .panic ch => ∀ e ∈ ch, Bd N e.v
  | _ => True

abbrev Post := Exit → Fr → Hp → Prop
/-- One of these outcomes is there. -/
def Reach (pr : Prot) (w0 : World) (ι : Ren) (N : Nat) (Φ : Post) : Exit → Act → World → Prop := fun x a w =>
  ∃ e fr μ ι', Φ e fr μ ∧ Ext N ι ι' ∧ N ≤ μ.next ∧ Sim pr w0 0 ι' μ w ∧ FrRel ι' μ.next fr a ∧ x = concX ι' e ∧ BdX μ.next e
def Tri (P : Program) (pr : Prot) (w0 : World) (N : Nat) (c : Code) (fr : Fr) (μ : Hp) (Φ : Post) : Prop :=
  N ≤ μ.next → ∀ ι w a, Sim pr w0 0 ι μ w → FrRel ι μ.next fr a → c.wp P (Reach pr w0 ι N Φ) a w

section
variable {P : Program} {E : Env} {pr : Prot} {w0 : World}

theorem tri_of_goal {c : Code} {fr : Fr} {μ : Hp} {e : Exit} {fr' : Fr} {μ' : Hp} (h : ∀ ι w a (Q : Exit → Act → World → Prop), Sim pr w0 0 ι μ w → FrRel ι μ.next fr a → Goal pr w0 0 ι μ Q e fr' μ' → c.wp P Q a w) (N : Nat) :
    Tri P pr w0 N c fr μ fun e1 f1 m1 => e1 = e ∧ f1 = fr' ∧ m1 = μ' := by
  intro hN ι w a hS hF
  refine h ι w a _ hS hF ?_
  cases e with
  | panic ch => exact fun ι' a' w' hx hl hS' hF' hb => ⟨_, _, _, ι', ⟨rfl, rfl, rfl⟩, hx.mono hN, Nat.le_trans hN hl, hS', hF', rfl, hb⟩
  | _ => exact fun ι' a' w' hx hl hS' hF' => ⟨_, _, _, ι', ⟨rfl, rfl, rfl⟩, hx.mono hN, Nat.le_trans hN hl, hS', hF', rfl, trivial⟩

/-- What the machine over symbols comes to. -/
theorem tri_code (hE : EnvOk P E) (hng : E.ng = 0) (hmix : P.follows .mixedOrders = true) {s : Sm} (hs : SmOk P E pr w0 s) {run0 : CallF} (h0 : CallsOk P pr w0 E.ng run0) {n : Nat} {f : FuncId} {p : List Nat} {c : Code} (hh : Here E f p c)
    {fr : Fr} {μ : Hp} {orc : List Ans} {e : Exit} {fr' : Fr} {μ' : Hp} {orc' : List Ans} {O : Prop} (h : codeO P E s run0 n f p c fr μ orc True = some (e, fr', μ', orc', O)) (hO : O) (N : Nat) :
    Tri P pr w0 N c fr μ fun e1 f1 m1 => e1 = e ∧ f1 = fr' ∧ m1 = μ' := by
  have := (codeO_ok hE hmix hs h0 n f p c hh _ _ _ _ _ _ _ _ _ h).2 hO
  rw [hng] at this
  exact tri_of_goal this N

/-- An outcome, with what is not needed forgotten. -/
def Forget (N : Nat) (Φ : Post) : Post := fun e fr μ =>
  Φ e fr μ ∨ ∃ σ frc μc, (∀ n, n < N → σ n = n) ∧ N ≤ μc.next ∧ Keeps σ μ μc ∧ KeepsF σ μc.next fr frc ∧ (∀ ch, e ≠ .panic ch) ∧ Φ e frc μc
theorem Tri.weaken {N : Nat} {c : Code} {fr : Fr} {μ : Hp} {Φ Ψ : Post} (h : Tri P pr w0 N c fr μ Φ) (hk : ∀ e f m, Φ e f m → Forget N Ψ e f m) : Tri P pr w0 N c fr μ Ψ := by
  intro hN ι w a hS hF
  refine Code.wp_mono ?_ (h hN ι w a hS hF)
  rintro x a' w' ⟨e, fr', μ', ι', hΦ, hx, hl, hS', hF', hxe, hb⟩
  rcases hk e fr' μ' hΦ with hΨ | ⟨σ, frc, μc, hσ, hNc, hkeep, hkf, hne, hΨ⟩
  · exact ⟨e, fr', μ', ι', hΨ, hx, hl, hS', hF', hxe, hb⟩
  · refine ⟨e, frc, μc, ι'.via σ, hΨ, ⟨fun n hn => ?_, fun n hn => ?_, fun n hn => ?_⟩, hNc, hS'.keeps hkeep, hF'.keeps hkf, ?_, ?_⟩
    · simp only [Ren.via, hσ n hn]; exact hx.loc n hn
    · simp only [Ren.via, hσ n hn]; exact hx.ext n hn
    · simp only [Ren.via, hσ n hn]; exact hx.opq n hn
    · cases e with
      | panic ch => exact absurd rfl (hne ch)
      | _ => exact hxe
    · cases e with
      | panic ch => exact absurd rfl (hne ch)
      | _ => trivial

theorem Reach.trans {ι ι' : Ren} {N : Nat} {Φ : Post} {x : Exit} {a : Act} {w : World} (hx : Ext N ι ι') (h : Reach pr w0 ι' N Φ x a w) : Reach pr w0 ι N Φ x a w := by
  obtain ⟨e, fr, μ, ι'', h1, h2, h3⟩ := h
  exact ⟨e, fr, μ, ι'', h1, hx.trans h2 (Nat.le_refl _), h3⟩

theorem rounds_mono {c : Code} {Q Q' : Exit → Act → World → Prop} (hq : ∀ e a w, Q e a w → Q' e a w) : ∀ (k : Nat) (a : Act) (w : World), Code.rounds P c Q k a w → Code.rounds P c Q' k a w := by
  intro k
  induction k with
  | zero => intro a w h; exact h
  | succ k ih =>
    intro a w h
    refine Code.wp_mono ?_ h
    intro e a w h
    cases e with
    | normal => exact ih a w h
    | _ => exact hq _ _ _ h
/-- A loop: each round comes to another state of a smaller measure, or leaves. -/
theorem tri_loop {T : Type} (F : T → Fr) (H : T → Hp) (m : T → Nat) {N : Nat} {c : Code} {Φ : Post}
    (hb : ∀ s, Tri P pr w0 N c (F s) (H s) fun e f μ => (e = .normal ∧ ∃ s', f = F s' ∧ μ = H s' ∧ m s' < m s) ∨ (e ≠ .normal ∧ Φ e f μ)) (s : T) :
    Tri P pr w0 N (.loop c) (F s) (H s) Φ := by
  intro hN ι w a hS hF
  have key : ∀ (k : Nat) (s : T), m s < k → N ≤ (H s).next → ∀ ι w a, Sim pr w0 0 ι (H s) w → FrRel ι (H s).next (F s) a → Code.rounds P c (Reach pr w0 ι N Φ) k a w := by
    intro k
    induction k with
    | zero => intro s hs; omega
    | succ k ih =>
      intro s hs hN ι w a hS hF
      have h1 := hb s hN ι w a hS hF
      refine Code.wp_mono ?_ h1
      rintro x a' w' ⟨e, fr', μ', ι', hΦ, hx, hl, hS', hF', hxe, hbx⟩
      subst hxe
      rcases hΦ with ⟨rfl, s', rfl, rfl, hlt⟩ | ⟨hne, hΦ⟩
      · exact rounds_mono (fun e a w h => Reach.trans hx h) k a' w' (ih s' (by omega) hl ι' w' a' hS' hF')
      · cases e with
        | normal => exact absurd rfl hne
        | _ => exact ⟨_, fr', μ', ι', hΦ, hx, hl, hS', hF', rfl, hbx⟩
  exact wp_loop_rounds (m s + 1) (key (m s + 1) s (by omega) hN ι w a hS hF)
end
end Go.Abs
end

section
/-
  The abstract machine: what a function does to a small heap it does to that part of any heap.
-/
namespace Go.Abs
set_option linter.unusedVariables false
set_option linter.unusedSimpArgs false
set_option linter.unusedSectionVars false

theorem DeepOk.mono {pr pr' : Nat → Prop} {w w' : World} (h : ∀ b, b < w.heap.size → pr b → b < w'.heap.size ∧ pr' b ∧ w'.heap[b]? = w.heap[b]?) : ∀ (d : Deep) (v : Value), DeepOk pr w d v → DeepOk pr' w' d v
  | .val u, v, hd => by rw [deepOk_val] at *; exact hd
  | .flat vs l c, v, hd => by
    rw [deepOk_flat] at *
    obtain ⟨b, o, rfl, hc⟩ := hd
    refine ⟨b, o, rfl, fun i u hu => ?_⟩
    obtain ⟨h1, h2, h3, h4⟩ := hc i u hu
    obtain ⟨g1, g2, g3⟩ := h b h1 h2
    exact ⟨g1, g2, by rw [World.cell?_of_block (w := w) g3]; exact h3, h4⟩
  | .row es l c, v, hd => by
    rw [deepOk_row] at *
    obtain ⟨b, o, rfl, hc⟩ := hd
    refine ⟨b, o, rfl, fun i hi => ?_⟩
    obtain ⟨h1, h2, u, h3, h4⟩ := hc i hi
    obtain ⟨g1, g2, g3⟩ := h b h1 h2
    exact ⟨g1, g2, u, by rw [World.cell?_of_block (w := w) g3]; exact h3, DeepOk.mono h es[i] u h4⟩
  | .void sp, v, hd => by rw [deepOk_void] at *; exact hd
termination_by d => SizeOf.sizeOf d
decreasing_by
  have := List.sizeOf_lt_of_mem (List.getElem_mem hi)
  simp
  omega
theorem RoOk.mono {pr pr' : Nat → Prop} {w w' : World} (h : ∀ b, b < w.heap.size → pr b → b < w'.heap.size ∧ pr' b ∧ w'.heap[b]? = w.heap[b]?) {l : Nat × Nat} {o : AObj} (ho : RoOk pr w l o) : RoOk pr' w' l o := by
  cases o with
  | rov vs =>
    intro i u hu
    obtain ⟨h1, h2, h3, h4⟩ := ho i u hu
    obtain ⟨g1, g2, g3⟩ := h _ h1 h2
    exact ⟨g1, g2, by rw [World.cell?_of_block (w := w) g3]; exact h3, h4⟩
  | ro es =>
    intro i hi
    obtain ⟨h1, h2, u, h3, h4⟩ := ho i hi
    obtain ⟨g1, g2, g3⟩ := h _ h1 h2
    exact ⟨g1, g2, u, by rw [World.cell?_of_block (w := w) g3]; exact h3, h4.mono h⟩
  | _ => trivial

theorem ObjOk.down {ι ι' : Ren} {τ : Nat → Nat} {N M : Nat} {w : World} {n : Nat} {o : AObj} (h : ObjOk ι N w n o) (hx : Ext N ι (ι'.via τ)) (hn : n < N) (hM : ∀ i, i < N → τ i < M) : ObjOk ι' M w (τ n) (upO τ o) := by
  have hloc : ι'.loc (τ n) = ι.loc n := hx.loc n hn
  have hext : ι'.ext (τ n) = ι.ext n := hx.ext n hn
  have hopq : ι'.opq (τ n) = ι.opq n := hx.opq n hn
  have hc : ∀ v, Bd N v → conc ι' (upV τ v) = conc ι v := fun v hv => by rw [conc_up]; exact conc_ext hx v hv
  cases o with
  | cells vs es =>
    simp only [ObjOk, upO, hloc, hext, List.length_map] at h ⊢
    refine ⟨fun i v hv => ?_, h.2⟩
    rw [List.getElem?_map, Option.map_eq_some_iff] at hv
    obtain ⟨u, hu, rfl⟩ := hv
    obtain ⟨h1, h2⟩ := h.1 i u hu
    exact ⟨by rw [hc u h2]; exact h1, Bd_up hM u h2⟩
  | map es clock =>
    simp only [ObjOk, upO, hloc] at h ⊢
    obtain ⟨h0, h1, h2⟩ := h
    refine ⟨h0, ?_, ?_⟩
    · rw [h1]
      congr 3
      rw [List.map_map]
      exact List.map_congr_left fun e he => by simp [concE, upE, hc _ (h2 e he).1, hc _ (h2 e he).2]
    · intro e he
      obtain ⟨e0, he0, rfl⟩ := List.mem_map.1 he
      exact ⟨Bd_up hM _ (h2 e0 he0).1, Bd_up hM _ (h2 e0 he0).2⟩
  | sIter s pos => simp only [ObjOk, upO, hloc] at h ⊢; exact h
  | mIter m since seen st =>
    simp only [ObjOk, upO, hloc] at h ⊢
    obtain ⟨h0, h1, h2⟩ := h
    refine ⟨h0, ?_, ?_⟩
    · rw [h1]
      cases m with
      | none => rfl
      | some r => simp [show ι'.loc (τ r) = ι.loc r from hx.loc r (h2 r rfl)]
    · intro r hr
      cases m with
      | none => simp at hr
      | some r0 => simp at hr; subst hr; exact hM _ (h2 r0 rfl)
  | loop L =>
    simp only [ObjOk, upO, hloc, hopq] at h ⊢
    obtain ⟨h0, h1, h2, tmps, h3, h4, h5⟩ := h
    refine ⟨h0, hM _ h1, h2, tmps, ?_, h4, fun t ht => ?_⟩
    · rw [h3, show ι'.loc (τ L.df) = ι.loc L.df from hx.loc _ h1]
    · have hg : ((L.t.map (upV τ)).get t).getD (upV τ L.d) = upV τ ((L.t.get t).getD L.d) := by rw [Tr.map_get]; cases L.t.get t <;> rfl
      rw [hg] at ht ⊢
      obtain ⟨g1, g2⟩ := h5 t (notP_down ht)
      exact ⟨by rw [hc _ g2]; exact g1, Bd_up hM _ g2⟩
  | dfd b => simp only [ObjOk, upO, hloc] at h ⊢; exact h
  | rov vs => trivial
  | ro ds => trivial
  | dead => trivial

def upEnd (τ : Nat → Nat) : Ending → Ending
  | .returned v => .returned (upV τ v)
  | .panicked ch => .panicked (ch.map fun e => { e with v := upV τ e.v })
  | .outgrown => .outgrown

/-- On this heap a call comes to that. -/
def LocalOk (P : Program) (f : FuncId) (args : List Value) (μL : Hp) (e : Ending) (μL' : Hp) : Prop :=
  ∀ pr w0 ι w, Sim pr w0 0 ι μL w → Calls P f (args.map (conc ι)).toArray w fun e' w' => ∃ ι', Ext μL.next ι ι' ∧ μL.next ≤ μL'.next ∧ Sim pr w0 0 ι' μL' w' ∧ EndRel ι' μL'.next e e'

structure Lifts (μ : Hp) (τ : Nat → Nat) (μL μL' μ' : Hp) : Prop where
  keep : Keeps τ μ μL
  low : ∀ i, i < μL.next → τ i < μ.next
  high : ∀ i, μL.next ≤ i → τ i = μ.next + (i - μL.next)
  next : μ'.next = μ.next + (μL'.next - μL.next)
  lim : μ'.next ≤ limit
  got : ∀ n o', μ'.get n = some o' → (∃ i o, i < μL'.next ∧ n = τ i ∧ μL'.get i = some o ∧ o' = upO τ o ∧ (∀ vs, o ≠ .rov vs) ∧ ∀ ds, o ≠ .ro ds) ∨
    (n < μ.next ∧ μ.get n = some o' ∧ ∀ i o, μL.get i = some o → o.live = true → n ≠ τ i)

theorem EndRel.up {ι ι' : Ren} {τ : Nat → Nat} {N M : Nat} {e e' : Ending} (h : EndRel ι N e e') (hx : Ext N ι (ι'.via τ)) (hM : ∀ i, i < N → τ i < M) : EndRel ι' M (upEnd τ e) e' := by
  have hc : ∀ v, Bd N v → conc ι' (upV τ v) = conc ι v := fun v hv => by rw [conc_up]; exact conc_ext hx v hv
  cases e with
  | returned v =>
    cases e' with
    | returned v' => obtain ⟨rfl, hb⟩ := h; exact ⟨(hc v hb).symm, Bd_up hM v hb⟩
    | _ => exact h
  | panicked ch =>
    cases e' with
    | panicked ch' =>
      obtain ⟨rfl, hb⟩ := h
      refine ⟨?_, ?_⟩
      · rw [List.map_map]
        exact List.map_congr_left fun x hx' => by simp [concP, hc _ (hb x hx')]
      · intro x hx'
        obtain ⟨y, hy, rfl⟩ := List.mem_map.1 hx'
        exact Bd_up hM _ (hb y hy)
    | _ => exact h
  | outgrown => cases e' <;> exact h

theorem lift_ok {P : Program} {f : FuncId} {args : List Value} {μL μL' : Hp} {e : Ending} (hL : LocalOk P f args μL e μL') (hb : ∀ x ∈ args, Bd μL.next x)
    {pr : Prot} {w0 : World} {ng : Nat} {ι : Ren} {μ μ' : Hp} {w : World} (h : Sim pr w0 ng ι μ w) {τ : Nat → Nat} (hl : Lifts μ τ μL μL' μ') :
    Calls P f ((args.map (upV τ)).map (conc ι)).toArray w fun e' w' => ∃ ι', Ext μ.next ι ι' ∧ μ.next ≤ μ'.next ∧ Sim pr w0 ng ι' μ' w' ∧ EndRel ι' μ'.next (upEnd τ e) e' := by
  have hsub : ∀ b, pr.r b ∧ b < w0.heap.size → ∀ i o, μL.get i = some o → o.live = true → b ≠ (ι.loc (τ i)).1 := by
    rintro b ⟨hp, hb⟩ i o hg hlv e
    exact h.free _ _ (hl.keep.obj i o hg) (by rw [upO_live]; exact hlv) (by rw [← e]; exact hb) (by rw [← e]; exact pr.sub _ hp)
  let prL : Prot := { p := fun b => ∀ i o, μL.get i = some o → o.live = true → b ≠ (ι.loc (τ i)).1, r := fun b => pr.r b ∧ b < w0.heap.size, sub := hsub }
  have hpr : ∀ b, b < w0.heap.size → pr.p b → b < w.heap.size ∧ prL.p b ∧ w.heap[b]? = w0.heap[b]? := by
    intro b hb hp
    refine ⟨Nat.lt_of_lt_of_le hb h.size, fun i o hg hlv e => ?_, h.prot b hb hp⟩
    exact h.free _ _ (hl.keep.obj i o hg) (by rw [upO_live]; exact hlv) (by rw [← e]; exact hb) (by rw [← e]; exact hp)
  have hSL : Sim prL w 0 (ι.via τ) μL w :=
    { os := rfl, tape := rfl, output := rfl, size := Nat.le_refl _, prot := fun _ _ _ => rfl, lt := hl.keep.lt
      obj := fun n o hg => (h.obj _ _ (hl.keep.obj n o hg)).up (hl.keep.bd n o hg)
      blk := fun n o hg hlv => h.blk _ _ (hl.keep.obj n o hg) (by rw [upO_live]; exact hlv)
      free := fun n o hg hlv _ hp => hp n o hg hlv rfl
      inj := fun n m o o' hg hg' hlv hlv' hne => h.inj _ _ _ _ (hl.keep.obj n o hg) (hl.keep.obj m o' hg') (by rw [upO_live]; exact hlv) (by rw [upO_live]; exact hlv') (hl.keep.inj n m o o' hg hg' hlv hlv' hne)
      lim := hl.keep.lim
      glob := fun g hg => by omega
      ro := fun n o hg => RoOk.mono (pr := pr.r) (pr' := prL.r) (fun b hb hp => ⟨Nat.lt_of_lt_of_le hb h.size, ⟨hp, hb⟩, h.prot b hb (pr.sub _ hp)⟩) (by have := h.ro _ _ (hl.keep.obj n o hg); cases o <;> exact this) }
  have hargs : (args.map (upV τ)).map (conc ι) = args.map (conc (ι.via τ)) := by
    rw [List.map_map]
    exact List.map_congr_left fun x hx => conc_up ι τ x
  rw [hargs]
  refine (hL prL w (ι.via τ) w hSL).mono ?_
  rintro e' w' ⟨ι1, hx1, hn1, hS1, he1⟩
  let ι2 : Ren := { loc := fun n => if n < μ.next then ι.loc n else ι1.loc (n - μ.next + μL.next), ext := fun n => if n < μ.next then ι.ext n else ι1.ext (n - μ.next + μL.next), opq := fun n => if n < μ.next then ι.opq n else ι1.opq (n - μ.next + μL.next) }
  have hx2 : Ext μ.next ι ι2 := ⟨fun n hn => by simp [ι2, hn], fun n hn => by simp [ι2, hn], fun n hn => by simp [ι2, hn]⟩
  have hxv : Ext μL'.next ι1 (ι2.via τ) := by
    refine ⟨fun i hi => ?_, fun i hi => ?_, fun i hi => ?_⟩
    rotate_left 2
    · simp only [Ren.via, ι2]
      by_cases hk : i < μL.next
      · rw [if_pos (hl.low i hk)]; exact (hx1.opq i hk).symm
      · rw [hl.high i (by omega), if_neg (by omega)]
        congr 1
        omega
    · simp only [Ren.via, ι2]
      by_cases hk : i < μL.next
      · rw [if_pos (hl.low i hk)]; exact (hx1.loc i hk).symm
      · rw [hl.high i (by omega), if_neg (by omega)]
        congr 1
        omega
    · simp only [Ren.via, ι2]
      by_cases hk : i < μL.next
      · rw [if_pos (hl.low i hk)]; exact (hx1.ext i hk).symm
      · rw [hl.high i (by omega), if_neg (by omega)]
        congr 1
        omega
  have hM : ∀ i, i < μL'.next → τ i < μ'.next := by
    intro i hi
    rw [hl.next]
    by_cases hk : i < μL.next
    · have := hl.low i hk; omega
    · rw [hl.high i (by omega)]; omega
  have hprot : ∀ b, b < w.heap.size → prL.p b → w'.heap[b]? = w.heap[b]? := hS1.prot
  have hold : ∀ n o', μ.get n = some o' → o'.live = true → (∀ i o, μL.get i = some o → o.live = true → n ≠ τ i) → prL.p (ι.loc n).1 := by
    intro n o' hg hlv hne i o hgi hlvi
    exact h.inj n (τ i) o' (upO τ o) hg (hl.keep.obj i o hgi) hlv (by rw [upO_live]; exact hlvi) (hne i o hgi hlvi)
  refine ⟨ι2, hx2, by rw [hl.next]; omega, ?_, he1.up hxv hM⟩
  refine ⟨hS1.os.trans h.os, hS1.tape.trans h.tape, hS1.output.trans h.output, Nat.le_trans h.size hS1.size, ?_, ?_, ?_, ?_, ?_, ?_, hl.lim, ?_, ?_⟩
  · intro b hb hp
    obtain ⟨g1, g2, g3⟩ := hpr b hb hp
    rw [hprot b g1 g2, g3]
  · intro n o' hg
    rcases hl.got n o' hg with ⟨i, o, hi, rfl, _⟩ | ⟨hn, _⟩
    · exact hM i hi
    · rw [hl.next]; omega
  · intro n o' hg
    rcases hl.got n o' hg with ⟨i, o, hi, rfl, hgi, rfl, _⟩ | ⟨hn, hg', hne⟩
    · exact (hS1.obj i o hgi).down hxv hi hM
    · exact (h.obj n o' hg').mono hx2 (by rw [hl.next]; omega) hn (fun hlv => hprot _ (h.blk n o' hg' hlv) (hold n o' hg' hlv hne))
  · intro n o' hg hlv
    rcases hl.got n o' hg with ⟨i, o, hi, rfl, hgi, rfl, _⟩ | ⟨hn, hg', hne⟩
    · rw [upO_live] at hlv
      have : ι2.loc (τ i) = ι1.loc i := hxv.loc i hi
      rw [this]; exact hS1.blk i o hgi hlv
    · rw [hx2.loc n hn]; exact Nat.lt_of_lt_of_le (h.blk n o' hg' hlv) hS1.size
  · intro n o' hg hlv hlt
    rcases hl.got n o' hg with ⟨i, o, hi, rfl, hgi, rfl, _⟩ | ⟨hn, hg', hne⟩
    · rw [upO_live] at hlv
      have hloc : ι2.loc (τ i) = ι1.loc i := hxv.loc i hi
      rw [hloc] at hlt ⊢
      intro hp
      obtain ⟨g1, g2, _⟩ := hpr _ hlt hp
      exact hS1.free i o hgi hlv g1 g2
    · rw [hx2.loc n hn] at hlt ⊢; exact h.free n o' hg' hlv hlt
  · intro n m o1 o2 hg1 hg2 hlv1 hlv2 hne
    have cross : ∀ i o m o2, i < μL'.next → μL'.get i = some o → o.live = true → m < μ.next → μ.get m = some o2 → o2.live = true → (∀ i o, μL.get i = some o → o.live = true → m ≠ τ i) → (ι1.loc i).1 ≠ (ι.loc m).1 := by
      intro i o m o2 hi hgi hlv hm hgm hlvm hne e
      exact hS1.free i o hgi hlv (by rw [e]; exact h.blk m o2 hgm hlvm) (by rw [e]; exact hold m o2 hgm hlvm hne)
    rcases hl.got n o1 hg1 with ⟨i, o, hi, rfl, hgi, rfl, _⟩ | ⟨hn, hgn, hnn⟩ <;> rcases hl.got m o2 hg2 with ⟨j, q, hj, rfl, hgj, rfl, _⟩ | ⟨hm, hgm, hnm⟩
    · rw [upO_live] at hlv1 hlv2
      rw [show ι2.loc (τ i) = ι1.loc i from hxv.loc i hi, show ι2.loc (τ j) = ι1.loc j from hxv.loc j hj]
      exact hS1.inj i j o q hgi hgj hlv1 hlv2 (fun e => hne (by rw [e]))
    · rw [upO_live] at hlv1
      rw [show ι2.loc (τ i) = ι1.loc i from hxv.loc i hi, hx2.loc m hm]
      exact cross i o m o2 hi hgi hlv1 hm hgm hlv2 hnm
    · rw [upO_live] at hlv2
      rw [show ι2.loc (τ j) = ι1.loc j from hxv.loc j hj, hx2.loc n hn]
      exact (cross j q n o1 hj hgj hlv2 hn hgn hlv1 hnn).symm
    · rw [hx2.loc n hn, hx2.loc m hm]
      exact h.inj n m o1 o2 hgn hgm hlv1 hlv2 hne
  · intro g hg
    obtain ⟨g1, g2⟩ := h.glob g hg
    exact ⟨by rw [hx2.loc g g2, hx2.opq g g2]; exact g1, by rw [hl.next]; omega⟩
  · intro n o' hg
    rcases hl.got n o' hg with ⟨i, o, hi, rfl, hgi, rfl, hr1, hr2⟩ | ⟨hn, hg', hne⟩
    · cases o with
      | rov vs => exact absurd rfl (hr1 vs)
      | ro ds => exact absurd rfl (hr2 ds)
      | _ => trivial
    · rw [hx2.loc n hn]; exact h.ro n o' hg'
end Go.Abs
end

section
/-
  The abstract machine: words for proofs: states written out, what a run comes to as a proposition that the kernel works out.
-/
namespace Go.Abs
set_option linter.unusedVariables false
set_option linter.unusedSimpArgs false
set_option linter.unusedSectionVars false

def mkT {α : Type} : List (Nat × α) → Tr α
  | [] => .e
  | (t, v) :: r => Tr.set 40 (mkT r) t v
def mkFr (sz : Nat) (ts : List (Nat × Value)) : Fr := { t := mkT ts, sz, df := [], d := poison }
def mkHp (next : Nat) (os : List (Nat × AObj)) : Hp := { objs := mkT os, next }
def look {α : Type} : List (Nat × α) → Nat → Option α
  | [], _ => none
  | (t, v) :: r, n => if n = t then some v else look r n
theorem mkT_get {α : Type} : ∀ (l : List (Nat × α)) (n : Nat), (∀ p ∈ l, p.1 < limit) → (mkT l).get n = look l n
  | [], n, h => rfl
  | (t, v) :: r, n, h => by
    simp only [mkT, look]
    by_cases hn : n = t
    · subst hn
      rw [if_pos rfl, Tr.get_set_same 40 _ _ _ (by have := h (n, v) (by simp); unfold limit at this; simp at this; omega)]
    · rw [if_neg hn, Tr.get_set_other 40 _ _ _ _ (Ne.symm hn)]
      exact mkT_get r n fun p hp => h p (by simp [hp])
theorem look_mem {α : Type} : ∀ (l : List (Nat × α)) (n : Nat) (v : α), look l n = some v → (n, v) ∈ l
  | [], n, v, h => by simp [look] at h
  | (t, u) :: r, n, v, h => by
    simp only [look] at h
    split at h
    · rename_i e; simp at h; subst e; subst h; simp
    · exact List.mem_cons_of_mem _ (look_mem r n v h)
def smallN {α : Type} (l : List (Nat × α)) : Bool := l.all fun p => Nat.blt p.1 limit
theorem smallN_spec {α : Type} {l : List (Nat × α)} (h : smallN l = true) : ∀ p ∈ l, p.1 < limit := fun p hp => by
  have := List.all_eq_true.1 h p hp
  simpa [Nat.blt_eq] using this

theorem i64_small {n : Int} (h0 : 0 ≤ n) (h : n ≤ 9223372036854775807) : IntKind.i64.wrap n = n := by
  have h1 : (2 : Int) ^ IntKind.i64.bits = 18446744073709551616 := by decide
  have h2 : (2 : Int) ^ (IntKind.i64.bits - 1) = 9223372036854775808 := by decide
  unfold IntKind.wrap
  rw [h1, h2]
  have h3 : n % 18446744073709551616 = n := Int.emod_eq_of_lt h0 (by omega)
  simp only [h3]
  have hs : IntKind.i64.signed = true := rfl
  simp only [hs, Bool.true_and]
  rw [if_neg (by simp; omega)]

/-! ### What is asked of a run -/
def chkF : List (Nat × Value) → Fr → Prop
  | [], _ => True
  | (t, v) :: r, fr => fr.get t = v ∧ chkF r fr
def selfF : List (Nat × Value) → Prop
  | [] => True
  | (_, v) :: r => v = v ∧ selfF r
theorem selfF_true : ∀ l, selfF l
  | [] => trivial
  | (_, v) :: r => ⟨rfl, selfF_true r⟩
def chkH : List (Nat × AObj) → Hp → Prop
  | [], _ => True
  | (n, o) :: r, μ => μ.get n = some o ∧ chkH r μ
def selfH : List (Nat × AObj) → Prop
  | [] => True
  | (_, o) :: r => some o = some o ∧ selfH r
theorem selfH_true : ∀ l, selfH l
  | [] => trivial
  | (_, o) :: r => ⟨rfl, selfH_true r⟩
theorem chkF_mem : ∀ {l : List (Nat × Value)} {fr : Fr}, chkF l fr → ∀ p ∈ l, fr.get p.1 = p.2
  | [], _, _, p, hp => by simp at hp
  | (t, v) :: r, fr, h, p, hp => by
    rcases List.mem_cons.1 hp with rfl | hp
    · exact h.1
    · exact chkF_mem h.2 p hp
theorem chkH_mem : ∀ {l : List (Nat × AObj)} {μ : Hp}, chkH l μ → ∀ p ∈ l, μ.get p.1 = some p.2
  | [], _, _, p, hp => by simp at hp
  | (t, v) :: r, μ, h, p, hp => by
    rcases List.mem_cons.1 hp with rfl | hp
    · exact h.1
    · exact chkH_mem h.2 p hp
/-- A piece's outcome: its obligations; how it leaves; slots; objects; how many names. -/
def Came (r : Option OR') (e : Exit) (sz : Nat) (ts : List (Nat × Value)) (os : List (Nat × AObj)) (next : Nat) : Prop :=
  match r with
  | some (e', fr, μ, _, O) => O ∧ e' = e ∧ fr.sz = sz ∧ fr.df = [] ∧ chkF ts fr ∧ chkH os μ ∧ μ.next = next
  | none => False
/-- The same, worked out. -/
def Said (O : Prop) (e : Exit) (sz : Nat) (ts : List (Nat × Value)) (os : List (Nat × AObj)) (next : Nat) : Prop :=
  O ∧ e = e ∧ sz = sz ∧ ([] : List Deferred) = [] ∧ selfF ts ∧ selfH os ∧ next = next
theorem came_of {r : Option OR'} {e : Exit} {sz : Nat} {ts : List (Nat × Value)} {os : List (Nat × AObj)} {next : Nat} {O : Prop} (h : Came r e sz ts os next = Said O e sz ts os next) (hO : O) : Came r e sz ts os next := by
  rw [h]; exact ⟨hO, rfl, rfl, rfl, selfF_true ts, selfH_true os, rfl⟩

/-- A call's outcome. -/
def CameC (r : Option (Ending × Hp × List Ans × Prop)) (e : Ending) (os : List (Nat × AObj)) (next : Nat) : Prop :=
  match r with
  | some (e', μ, _, O) => O ∧ e' = e ∧ chkH os μ ∧ μ.next = next
  | none => False
def SaidC (O : Prop) (e : Ending) (os : List (Nat × AObj)) (next : Nat) : Prop := O ∧ e = e ∧ selfH os ∧ next = next
theorem cameC_of {r : Option (Ending × Hp × List Ans × Prop)} {e : Ending} {os : List (Nat × AObj)} {next : Nat} {O : Prop} (h : CameC r e os next = SaidC O e os next) (hO : O) : CameC r e os next := by
  rw [h]; exact ⟨hO, rfl, selfH_true os, rfl⟩

theorem upV_id : ∀ (v : Value), upV (fun n => n) v = v
  | .pointer (some a) => by simp [upV]
  | .slice (some a) l c => by simp [upV]
  | .map (some r) => by simp [upV]
  | .func fn f c => by
    simp only [upV]
    rw [Array.map_congr_left (f := fun x => upV (fun n => n) x) (g := id) (xs := f) fun x hx => upV_id x, Array.map_congr_left (f := fun x => upV (fun n => n) x) (g := id) (xs := c) fun x hx => upV_id x]
    simp
  | .iface t v => by simp [upV, upV_id v]
  | .agg cs => by
    simp only [upV]
    rw [Array.map_congr_left (f := fun x => upV (fun n => n) x) (g := id) (xs := cs) fun x hx => upV_id x]
    simp
  | .tuple cs => by
    simp only [upV]
    rw [Array.map_congr_left (f := fun x => upV (fun n => n) x) (g := id) (xs := cs) fun x hx => upV_id x]
    simp
  | .chan none => by simp [upV]
  | .chan (some l) => by simp [upV]
  | .bool _ | .int _ _ | .float _ _ | .complex _ _ _ | .string _ | .pointer none | .slice none _ _ | .map none | .nilFunc | .nilIface => by simp [upV]
theorem upO_id (o : AObj) : upO (fun n => n) o = o := by
  cases o with
  | cells vs es => simp [upO, show upV (fun n => n) = id from funext upV_id]
  | map es clock => simp only [upO]; rw [show upE (fun n => n) = id from funext fun e => by simp [upE, upV_id]]; simp
  | mIter m since seen st => cases m <;> rfl
  | loop L =>
    have : ∀ t : Tr Value, t.map (fun v => v) = t := by
      intro t
      induction t with
      | e => rfl
      | n v l r ih1 ih2 => simp only [Tr.map, ih1, ih2]; cases v <;> rfl
    simp only [upO]
    rw [show upV (fun n => n) = fun v => v from funext upV_id, this]
  | _ => rfl

theorem keepsF_id {fr : Fr} {sz : Nat} {ts : List (Nat × Value)} {N : Nat} (hs : smallN ts = true) (h1 : fr.sz = sz) (h2 : fr.df = []) (h3 : chkF ts fr) (hb : ∀ p ∈ ts, Bd N p.2) : KeepsF (fun n => n) N fr (mkFr sz ts) where
  sz := h1.symm
  df := ⟨h2, rfl⟩
  tmp t ht := by
    unfold Fr.get mkFr at ht ⊢
    simp only [mkT_get ts t (smallN_spec hs)] at ht ⊢
    cases hl : look ts t with
    | none => rw [hl] at ht; simp [poison, notP] at ht
    | some v =>
      have hm := look_mem ts t v hl
      simp only [Option.getD_some, upV_id]
      exact ⟨chkF_mem h3 _ hm, hb _ hm⟩
theorem keeps_id {μ : Hp} {os : List (Nat × AObj)} {N : Nat} (hs : smallN os = true) (h : chkH os μ) (hb : ∀ p ∈ os, p.1 < N ∧ BdO N p.2) (hN : N ≤ limit) : Keeps (fun n => n) μ (mkHp N os) := by
  have hget : ∀ n o, (mkHp N os).get n = some o → (n, o) ∈ os := by
    intro n o hg
    simp only [Hp.get, mkHp, mkT_get os n (smallN_spec hs)] at hg
    exact look_mem os n o hg
  refine ⟨fun n o hg => (hb _ (hget n o hg)).1, fun n o hg => ?_, fun n o hg => (hb _ (hget n o hg)).2, fun n m o o' _ _ _ _ hne => hne, hN⟩
  rw [upO_id]
  exact chkH_mem h _ (hget n o hg)

section
variable {P : Program} {E : Env} {pr : Prot} {w0 : World}
/-- A piece of code that comes to a state written out (the same names). -/
theorem tri_came (hE : EnvOk P E) (hng : E.ng = 0) (hmix : P.follows .mixedOrders = true) {s : Sm} (hs : SmOk P E pr w0 s) {run0 : CallF} (h0 : CallsOk P pr w0 E.ng run0) {n : Nat} {f : FuncId} {p : List Nat} {c : Code} (hh : Here E f p c)
    {fr : Fr} {μ : Hp} {orc : List Ans} {e : Exit} {sz : Nat} {ts : List (Nat × Value)} {os : List (Nat × AObj)} {next : Nat} (h : Came (codeO P E s run0 n f p c fr μ orc True) e sz ts os next)
    (hne : ∀ ch, e ≠ .panic ch) (hst : smallN ts = true) (hso : smallN os = true) (hbt : ∀ p ∈ ts, Bd next p.2) (hbo : ∀ p ∈ os, p.1 < next ∧ BdO next p.2) (hlim : next ≤ limit) {N : Nat} (hN : N ≤ next) :
    Tri P pr w0 N c fr μ fun e1 f1 m1 => e1 = e ∧ f1 = mkFr sz ts ∧ m1 = mkHp next os := by
  unfold Came at h
  split at h
  · rename_i e' fr' μ' orc' O hc
    obtain ⟨hO, rfl, h1, h2, h3, h4, h5⟩ := h
    refine (tri_code hE hng hmix hs h0 hh hc hO N).weaken ?_
    rintro e1 f1 m1 ⟨rfl, rfl, rfl⟩
    exact .inr ⟨fun n => n, mkFr sz ts, mkHp next os, fun _ _ => rfl, hN, keeps_id hso h4 hbo hlim, keepsF_id hst h1 h2 h3 hbt, hne, rfl, rfl, rfl⟩
  · exact h.elim
/-- The state ahead of a piece of code. -/
def PreP (sz : Nat) (ts : List (Nat × Value)) (os : List (Nat × AObj)) (next : Nat) (fr : Fr) (μ : Hp) : Prop := fr.sz = sz ∧ fr.df = [] ∧ chkF ts fr ∧ chkH os μ ∧ μ.next = next
def SelfP (sz : Nat) (ts : List (Nat × Value)) (os : List (Nat × AObj)) (next : Nat) : Prop := sz = sz ∧ ([] : List Deferred) = [] ∧ selfF ts ∧ selfH os ∧ next = next
theorem selfP_true (sz : Nat) (ts : List (Nat × Value)) (os : List (Nat × AObj)) (next : Nat) : SelfP sz ts os next := ⟨rfl, rfl, selfF_true ts, selfH_true os, rfl⟩
def piece (sz : Nat) (ts : List (Nat × Value)) (os : List (Nat × AObj)) (next : Nat) (e1 : Exit) (fr1 : Fr) (μ1 : Hp) : PieceO := fun fr μ => some (e1, fr1, μ1, PreP sz ts os next fr μ)
theorem piece_ok {c : Code} {sz : Nat} {ts : List (Nat × Value)} {os : List (Nat × AObj)} {next : Nat} {e1 : Exit} {fr1 : Fr} {μ1 : Hp} (hne : ∀ ch, e1 ≠ .panic ch)
    (hst : smallN ts = true) (hso : smallN os = true) (hbt : ∀ p ∈ ts, Bd next p.2) (hbo : ∀ p ∈ os, p.1 < next ∧ BdO next p.2) (hlim : next ≤ limit)
    (h : Tri P pr w0 next c (mkFr sz ts) (mkHp next os) fun e f m => e = e1 ∧ f = fr1 ∧ m = μ1) : PieceOk P pr w0 0 c (piece sz ts os next e1 fr1 μ1) := by
  intro fr μ e fr' μ' p hp hpre ι w a Q hS hF hG
  simp only [piece, Option.some.injEq, Prod.mk.injEq] at hp
  obtain ⟨rfl, rfl, rfl, rfl⟩ := hp
  obtain ⟨h1, h2, h3, h4, h5⟩ := hpre
  have hk := keeps_id hso h4 hbo hlim
  have hf := keepsF_id hst h1 h2 h3 hbt
  refine Code.wp_mono ?_ (h (Nat.le_refl _) _ w a (hS.keeps hk) (hF.keeps hf))
  rintro x a' w' ⟨e', f', m', ι', ⟨rfl, rfl, rfl⟩, hx, hl, hS', hF', hxe, hb⟩
  have hx' : Ext μ.next ι ι' := by
    rw [h5]
    exact ⟨fun n hn => by rw [hx.loc n hn]; rfl, fun n hn => by rw [hx.ext n hn]; rfl, fun n hn => by rw [hx.opq n hn]; rfl⟩
  cases e' with
  | panic ch => exact absurd rfl (hne ch)
  | _ => rw [hxe]; exact hG ι' a' w' hx' (by rw [h5]; exact hl) hS' hF'
theorem tri_block {N : Nat} {id : Nat} {c : Code} {fr : Fr} {μ : Hp} {Φ Ψ : Post} (h : Tri P pr w0 N c fr μ Φ)
    (h1 : ∀ f m, Φ (.exit id) f m → Ψ .normal f m) (h2 : ∀ e f m, e ≠ .exit id → Φ e f m → Ψ e f m) : Tri P pr w0 N (.block id c) fr μ Ψ := by
  intro hN ι w a hS hF
  refine wp_block (Code.wp_mono ?_ (h hN ι w a hS hF))
  rintro x a' w' ⟨e, f, m, ι', hΦ, hx, hl, hS', hF', hxe, hb⟩
  subst hxe
  cases e with
  | exit id' =>
    simp only [concX, Exit.inBlock]
    split
    · rename_i hid
      subst hid
      exact ⟨.normal, f, m, ι', h1 f m hΦ, hx, hl, hS', hF', rfl, trivial⟩
    · rename_i hid
      exact ⟨.exit id', f, m, ι', h2 _ f m (by simpa using hid) hΦ, hx, hl, hS', hF', rfl, trivial⟩
  | normal => exact ⟨.normal, f, m, ι', h2 _ f m (by simp) hΦ, hx, hl, hS', hF', rfl, trivial⟩
  | panic ch => exact ⟨.panic ch, f, m, ι', h2 _ f m (by simp) hΦ, hx, hl, hS', hF', rfl, hb⟩
  | ret => exact ⟨.ret, f, m, ι', h2 _ f m (by simp) hΦ, hx, hl, hS', hF', rfl, trivial⟩
  | goto l => exact ⟨.goto l, f, m, ι', h2 _ f m (by simp) hΦ, hx, hl, hS', hF', rfl, trivial⟩
  | outgrown => exact ⟨.outgrown, f, m, ι', h2 _ f m (by simp) hΦ, hx, hl, hS', hF', rfl, trivial⟩
theorem Tri.to {N : Nat} {c : Code} {fr : Fr} {μ : Hp} {Φ Ψ : Post} (h : Tri P pr w0 N c fr μ Φ) (hk : ∀ e f m, Φ e f m → Ψ e f m) : Tri P pr w0 N c fr μ Ψ := h.weaken fun e f m hp => .inl (hk e f m hp)

/-- A call that comes to a state written out. -/
theorem local_came {f : FuncId} {args : List Value} {μL : Hp} {e : Ending} {os : List (Nat × AObj)} {next : Nat} (hE : EnvOk P E) (hng : E.ng = 0) (hmix : P.follows .mixedOrders = true) {s : Sm} (hs : ∀ pr w0, SmOk P E pr w0 s) {run0 : CallF} (h0 : ∀ pr w0, CallsOk P pr w0 E.ng run0) {n : Nat} {orc : List Ans}
    (h : CameC (runO P E s run0 n f args μL orc True) e os next) (hb : ∀ x ∈ args, Bd μL.next x) (hso : smallN os = true) (hbo : ∀ p ∈ os, p.1 < next ∧ BdO next p.2) (hlim : next ≤ limit) (hN : μL.next ≤ next) (he : ∀ v, e = .returned v → Bd next v) (hp : ∃ v, e = .returned v) : LocalOk P f args μL e (mkHp next os) := by
  intro pr w0 ι w hS
  unfold CameC at h
  split at h
  · rename_i e' μ' orc' O hc
    obtain ⟨hO, rfl, h4, h5⟩ := h
    have := (runO_ok hE hmix (hs pr w0) (h0 pr w0) n f args μL orc True e' μ' orc' O hc).2 hO ι w
    rw [hng] at this
    refine (this hS hb).mono ?_
    rintro e1 w' ⟨ι', hx, hl, hS', hend⟩
    have hk := keeps_id hso h4 hbo hlim
    refine ⟨ι'.via (fun n => n), ⟨fun n hn => hx.loc n hn, fun n hn => hx.ext n hn, fun n hn => hx.opq n hn⟩, hN, hS'.keeps hk, ?_⟩
    obtain ⟨v, rfl⟩ := hp
    cases e1 with
    | returned v' =>
      obtain ⟨rfl, _⟩ := hend
      exact ⟨rfl, he v rfl⟩
    | _ => exact hend.elim
  · exact h.elim
/-- What leaves all that was there as it was, leaves a heap as it was. -/
theorem Sim.stays {ng : Nat} {ι : Ren} {μ : Hp} {w w' : World} (h : Sim pr w0 ng ι μ w) (hb : RowKit.Below w.heap.size w w') : Sim pr w0 ng ι μ w' where
  os := hb.os.trans h.os
  tape := hb.tape.trans h.tape
  output := hb.output.trans h.output
  size := Nat.le_trans h.size hb.size
  prot k hk hp := (hb.block k (Nat.lt_of_lt_of_le hk h.size)).trans (h.prot k hk hp)
  lt := h.lt
  obj n o hg := (h.obj n o hg).mono (Ext.refl _ _) (Nat.le_refl _) (h.lt n o hg) (fun hl => hb.block _ (h.blk n o hg hl))
  blk n o hg hl := Nat.lt_of_lt_of_le (h.blk n o hg hl) hb.size
  free := h.free
  inj := h.inj
  lim := h.lim
  glob := h.glob
  ro := h.ro
/-- A contract that says nothing of memory is a summary. -/
theorem calls_stays {ng : Nat} {f : FuncId} {args : List Value} {v : Value} {ι : Ren} {μ : Hp} {w : World} (h : Sim pr w0 ng ι μ w) (hv : Pure v)
    (hc : Calls P f (args.map (conc ι)).toArray w fun e w' => e = .returned v ∧ RowKit.Below w.heap.size w w') :
    Calls P f (args.map (conc ι)).toArray w fun e' w' => ∃ ι', Ext μ.next ι ι' ∧ μ.next ≤ μ.next ∧ Sim pr w0 ng ι' μ w' ∧ EndRel ι' μ.next (.returned v) e' := by
  refine hc.mono ?_
  rintro e w' ⟨rfl, hb⟩
  exact ⟨ι, Ext.refl _ _, Nat.le_refl _, h.stays hb, (hv ι).1.symm, Bd.mono (Nat.zero_le _) _ (hv ι).2⟩
/-- And the other way: what a call comes to on read-only data, over a world. -/
theorem below_of_local {f : FuncId} {args : List Value} {μL μL' : Hp} {v : Value} (hL : LocalOk P f args μL (.returned v) μL') (hv : Pure v) {w : World} {ι : Ren} (hS : Sim Prot.all w 0 ι μL w) :
    Calls P f (args.map (conc ι)).toArray w fun e w' => e = .returned v ∧ RowKit.Below w.heap.size w w' := by
  refine (hL _ _ ι w hS).mono ?_
  rintro e w' ⟨ι', _, _, hS', he⟩
  refine ⟨?_, hS'.below⟩
  cases e with
  | returned v' => obtain ⟨h1, _⟩ := he; rw [h1, (hv ι').1]
  | _ => exact he.elim
theorem noRun_ok {ng : Nat} : CallsOk P pr w0 ng (fun _ _ _ => none) := fun f args μ e μ' h => by cases h
end
end Go.Abs
end

section
/-
  The abstract machine: what a call's arguments hold, as read-only data.
-/
namespace Go.Abs
set_option linter.unusedVariables false
set_option linter.unusedSimpArgs false
set_option linter.unusedSectionVars false

/-- These cells have the shape of this type: numbers, bools, strings, structs, slices. -/
def FitD (P : Program) (R : Nat) : Nat → TypeId → List Deep → Prop
  | 0, _, _ => False
  | n + 1, t, ds => match P.underlying t with
    | some .bool => ∃ b, ds = [.val (.bool b)]
    | some (.int k) => ∃ i, ds = [.val (.int k i)] ∧ (Lit.int k i).wf = true
    | some (.float k) => ∃ i, ds = [.val (.float k i)] ∧ (Lit.float k i).wf = true
    | some .string => ∃ s : ByteArray, ds = [.val (.string s)] ∧ s.size ≤ maxLen
    | some (.struct fs) => ds.length = P.cellsOf t ∧ ∀ (i : Nat) (f : Field), fs[i]? = some f → FitD P R n f.type ((ds.drop f.offset).take (P.cellsOf f.type))
    | some (.slice e) => ds = [.val (.slice none 0 0)] ∨ (∃ sp, ds = [.void sp]) ∨
        ∃ es len cap, ds = [.row es len cap] ∧ len ≤ cap ∧ 0 < cap ∧ cap ≤ maxLen ∧ cap * P.bytesOf e ≤ R ∧ es.length = cap * P.cellsOf e ∧ ∀ i, i < cap → FitD P R n e ((es.drop (i * P.cellsOf e)).take (P.cellsOf e))
    | _ => False
/-- A struct's fields lie one behind the other. -/
def tiles (P : Program) : List Field → Nat → Nat → Bool
  | [], o, n => Nat.beq o n
  | f :: r, o, n => Nat.beq f.offset o && tiles P r (o + P.cellsOf f.type) n
/-- A set of types of such data, closed. -/
def okType (P : Program) (T : List TypeId) (t : TypeId) : Bool :=
  match P.underlying t with
  | some .bool | some (.int _) | some (.float _) | some .string => true
  | some (.struct fs) => tiles P fs.toList 0 (P.cellsOf t) && fs.toList.all fun f => T.contains f.type
  | some (.slice e) => Nat.blt 0 (P.cellsOf e) && T.contains e
  | _ => false
def okTypes (P : Program) (T : List TypeId) : Bool := T.all (okType P T)

section
variable {H : Type} {enc : TypeId × Value → H} {P : Program} {w : World}

/-- These cells hold those data. -/
def Hold (w : World) (ds : List Deep) (cs : List Value) : Prop := ds.length = cs.length ∧ ∀ (i : Nat) (d : Deep) (v : Value), ds[i]? = some d → cs[i]? = some v → DeepOk (fun _ => True) w d v
theorem Hold.one {d : Deep} {v : Value} (h : DeepOk (fun _ => True) w d v) : Hold w [d] [v] := by
  refine ⟨rfl, fun i d' v' hd hv => ?_⟩
  cases i with
  | zero => simp at hd hv; subst hd; subst hv; exact h
  | succ i => simp at hd
theorem Hold.append {ds es : List Deep} {cs vs : List Value} (h1 : Hold w ds cs) (h2 : Hold w es vs) : Hold w (ds ++ es) (cs ++ vs) := by
  refine ⟨by simp [h1.1, h2.1], fun i d v hd hv => ?_⟩
  by_cases hi : i < ds.length
  · rw [List.getElem?_append_left hi] at hd
    rw [List.getElem?_append_left (by rw [← h1.1]; exact hi)] at hv
    exact h1.2 i d v hd hv
  · rw [List.getElem?_append_right (by omega)] at hd
    rw [List.getElem?_append_right (by rw [← h1.1]; omega)] at hv
    rw [← h1.1] at hv
    exact h2.2 _ d v hd hv

theorem tile_hold {R : Nat} {n : Nat} {cs : List Value} : ∀ (fs : List Field) (o N : Nat), tiles P fs o N = true → cs.length = N →
    (∀ f ∈ fs, ∃ ds, Hold w ds ((cs.drop f.offset).take (P.cellsOf f.type)) ∧ FitD P R n f.type ds) →
    ∃ ds, Hold w ds (cs.drop o) ∧ ∀ f ∈ fs, o ≤ f.offset ∧ FitD P R n f.type ((ds.drop (f.offset - o)).take (P.cellsOf f.type))
  | [], o, N, ht, hl, hf => by
    have := beq_yes ht
    refine ⟨[], ⟨by simp; omega, by simp⟩, by simp⟩
  | f :: r, o, N, ht, hl, hf => by
    simp only [tiles, Bool.and_eq_true] at ht
    have ho := beq_yes ht.1
    obtain ⟨d1, h1, g1⟩ := hf f (by simp)
    obtain ⟨d2, h2, g2⟩ := tile_hold r (o + P.cellsOf f.type) N ht.2 hl fun f' hf' => hf f' (by simp [hf'])
    rw [ho] at h1
    have hle : ∀ (l : List Field) (o : Nat), tiles P l o N = true → o ≤ N := by
      intro l
      induction l with
      | nil => intro o h; exact Nat.le_of_eq (beq_yes h)
      | cons a l ih => intro o h; simp only [tiles, Bool.and_eq_true] at h; have := ih _ h.2; omega
    have hsz := hle r _ ht.2
    have hlen1 : d1.length = P.cellsOf f.type := by rw [h1.1, List.length_take, List.length_drop]; omega
    refine ⟨d1 ++ d2, ?_, ?_⟩
    · have := h1.append h2
      rw [← List.drop_drop, List.take_append_drop] at this
      exact this
    · intro f' hf'
      rcases List.mem_cons.1 hf' with rfl | hf'
      · refine ⟨by omega, ?_⟩
        rw [ho, Nat.sub_self, List.drop_zero, List.take_append_of_le_length (by omega), List.take_of_length_le (by omega)]
        exact g1
      · obtain ⟨g3, g4⟩ := g2 f' hf'
        refine ⟨by omega, ?_⟩
        rw [show f'.offset - o = d1.length + (f'.offset - (o + P.cellsOf f.type)) by omega, ← List.drop_drop, List.drop_left]
        exact g4

theorem blocks {α : Type} (c : Nat) (D : Nat → List α) : ∀ (k : Nat), (∀ i, i < k → (D i).length = c) → ∃ es : List α, es.length = k * c ∧ ∀ i, i < k → (es.drop (i * c)).take c = D i
  | 0, h => ⟨[], by simp, by simp⟩
  | k + 1, h => by
    obtain ⟨es, h1, h2⟩ := blocks c D k fun i hi => h i (by omega)
    have hk := h k (by omega)
    refine ⟨es ++ D k, by rw [List.length_append, h1, hk, Nat.succ_mul], fun i hi => ?_⟩
    by_cases hik : i < k
    · have hle : i * c + c ≤ es.length := by
        rw [h1, ← Nat.succ_mul]
        exact Nat.mul_le_mul_right c hik
      rw [List.drop_append_of_le_length (by omega), List.take_append_of_le_length (by rw [List.length_drop]; omega)]
      exact h2 i hik
    · have : i = k := by omega
      subst this
      rw [← h1, List.drop_left, List.take_of_length_le (by omega)]

theorem mem_each {t : TypeId} {d : DataW H} {n : Nat} : ∀ {ts : List TypeId} {ds : List (DataW H)} {i : Nat}, ts[i]? = some t → ds[i]? = some d → n ∈ d.weights P t → n ∈ DataW.weightsEach P ts ds
  | _ :: _, _ :: _, 0, ht, hd, h => by
    simp at ht hd; subst ht; subst hd
    simp only [DataW.weightsEach]
    exact List.mem_append_left _ h
  | _ :: ts, _ :: ds, i + 1, ht, hd, h => by
    simp only [DataW.weightsEach]
    exact List.mem_append_right _ (mem_each (ts := ts) (ds := ds) (i := i) (by simpa using ht) (by simpa using hd) h)
  | [], _, _, ht, _, _ => by simp at ht
  | _ :: _, [], _, _, hd, _ => by simp at hd
theorem mem_all {e : TypeId} {d : DataW H} {n : Nat} : ∀ {ds : List (DataW H)}, d ∈ ds → n ∈ d.weights P e → n ∈ DataW.weightsAll P e ds
  | [], hd, _ => by cases hd
  | x :: r, hd, h => by
    simp only [DataW.weightsAll]
    rcases List.mem_cons.1 hd with rfl | hd
    · exact List.mem_append_left _ h
    · exact List.mem_append_right _ (mem_all hd h)
theorem trod_fit {T : List TypeId} (hT : okTypes P T = true) {R : Nat} : ∀ (n : Nat) (t : TypeId) (cs : List Value) (x : DataW H × List MemPlace), t ∈ T → DataW.trod enc P w 0 (fun _ => true) true n t cs = some x → (∀ k ∈ x.1.weights P t, k ≤ R) →
    ∃ ds, Hold w ds cs ∧ FitD P R n t ds := by
  intro n
  induction n with
  | zero => intro t cs x _ h; simp [DataW.trod] at h
  | succ n ih =>
    intro t cs x ht h hR
    have hok := List.all_eq_true.1 hT t ht
    unfold okType at hok
    unfold FitD
    split at hok
    · rename_i hu
      obtain ⟨b, rfl, _⟩ := DataW.trod_bool hu h
      exact ⟨[.val (.bool b)], Hold.one (by rw [deepOk_val]; exact ⟨rfl, fun ι => by simp⟩), ⟨b, rfl⟩⟩
    · rename_i k hu
      obtain ⟨i, rfl, _, hw⟩ := DataW.trod_int hu h
      exact ⟨[.val (.int k i)], Hold.one (by rw [deepOk_val]; exact ⟨rfl, fun ι => by simp⟩), ⟨i, rfl, hw⟩⟩
    · rename_i k hu
      have hfl : ∃ b, cs = [.float k b] ∧ (Lit.float k b).wf = true := by
        unfold DataW.trod at h
        rw [hu] at h
        split at h <;> simp_all
      obtain ⟨b, rfl, hw⟩ := hfl
      exact ⟨[.val (.float k b)], Hold.one (by rw [deepOk_val]; exact ⟨rfl, fun ι => by simp⟩), ⟨b, rfl, hw⟩⟩
    · rename_i hu
      obtain ⟨s, rfl, _, hw⟩ := DataW.trod_string hu h
      exact ⟨[.val (.string s)], Hold.one (by rw [deepOk_val]; exact ⟨rfl, fun ι => by simp⟩), ⟨s, rfl, hw⟩⟩
    · rename_i fs hu
      simp only [Bool.and_eq_true] at hok
      obtain ⟨xs, m, hm, hxe, hl, hxl, hf⟩ := DataW.trod_struct hu h
      subst hxe
      simp only [DataW.weights, hu] at hR
      have hmn : m = n := by omega
      subst hmn
      obtain ⟨ds, h1, h2⟩ := tile_hold (R := R) (n := m) (w := w) fs.toList 0 (P.cellsOf t) hok.1 hl (by
        intro f hfm
        obtain ⟨i, hi⟩ := List.getElem?_of_mem hfm
        have hi' : fs[i]? = some f := by simpa using hi
        have hg := hf i f hi'
        have hlt : i < xs.length := by rw [hxl]; exact (Array.getElem?_eq_some_iff.1 hi').1
        rw [List.getElem?_eq_getElem hlt] at hg
        exact ih f.type _ _ (by simpa using List.all_eq_true.1 hok.2 f hfm) hg (fun k hk => hR k (mem_each (i := i) (by simp [hi']) (by simp [hlt]) hk)))
      simp only [List.drop_zero] at h1
      refine ⟨ds, h1, ?_⟩
      refine ⟨by rw [h1.1, hl], fun i f hi => ?_⟩
      have := (h2 f (Array.mem_toList_iff.2 (Array.mem_of_getElem? hi))).2
      simpa using this
    · rename_i e hu
      simp only [Bool.and_eq_true, Nat.blt_eq] at hok
      rcases DataW.trod_slice hu h with ⟨rfl, _⟩ | ⟨a, len, cap, elems, rest, m, hm, rfl, hxe, _, hl, hcap, hel, hg1, hg2, _⟩
      · exact ⟨[.val (.slice none 0 0)], Hold.one (by rw [deepOk_val]; exact ⟨rfl, fun ι => by simp⟩), .inl rfl⟩
      · have hmn : m = n := by omega
        subst hmn
        obtain ⟨hr1, hr2⟩ := hg2 rfl
        subst hxe
        simp only [DataW.weights, hu, List.length_map] at hR
        have hRc : cap * P.bytesOf e ≤ R := by
          have := hR _ (List.mem_cons_self ..)
          rwa [hel, hr1, show len + (cap - len) = cap by omega] at this
        obtain ⟨ab, ao, asp⟩ := a
        rcases Nat.eq_zero_or_pos cap with hc0 | hcp
        · subst hc0
          have hl0 : len = 0 := by omega
          subst hl0
          exact ⟨[.void asp], Hold.one (by rw [deepOk_void]; exact ⟨ab, ao, rfl⟩), .inr (.inl ⟨asp, rfl⟩)⟩
        · have each : ∀ i, ∃ q : List Deep × List Value, i < cap → w.cells? 0 ((⟨ab, ao, asp⟩ : Addr).add (i * P.cellsOf e)) (P.cellsOf e) = some q.2 ∧ Hold w q.1 q.2 ∧ FitD P R m e q.1 := by
            intro i
            by_cases hi : i < cap
            · have hx : ∃ y, y ∈ elems ++ rest ∧ (w.cells? 0 ((⟨ab, ao, asp⟩ : Addr).add (i * P.cellsOf e)) (P.cellsOf e)).bind (DataW.trod enc P w 0 (fun _ => true) true m e) = some y := by
                by_cases hil : i < len
                · exact ⟨elems[i]'(by omega), List.mem_append_left _ (List.getElem_mem _), by rw [hg1 i hil, List.getElem?_eq_getElem]⟩
                · have := hr2 (i - len) (by omega)
                  rw [show len + (i - len) = i by omega] at this
                  exact ⟨rest[i - len]'(by omega), List.mem_append_right _ (List.getElem_mem _), by rw [this, List.getElem?_eq_getElem]⟩
              obtain ⟨y, hyin, hy⟩ := hx
              rw [Option.bind_eq_some_iff] at hy
              obtain ⟨cs', h1, h2⟩ := hy
              obtain ⟨ds, h3, h4⟩ := ih e cs' y (by simpa using hok.2) h2 (fun k hk => hR k (by
                refine List.mem_cons_of_mem _ ?_
                rcases List.mem_append.1 hyin with hyi | hyi
                · exact List.mem_append_left _ (mem_all (List.mem_map.2 ⟨y, hyi, rfl⟩) hk)
                · exact List.mem_append_right _ (mem_all (List.mem_map.2 ⟨y, hyi, rfl⟩) hk)))
              exact ⟨(ds, cs'), fun _ => ⟨h1, h3, h4⟩⟩
            · exact ⟨([], []), fun h => absurd h hi⟩
          obtain ⟨q, hq⟩ := Classical.axiomOfChoice each
          have hclen : ∀ i, i < cap → (q i).2.length = P.cellsOf e := fun i hi => (World.cells?_some (hq i hi).1).2.1
          obtain ⟨es, he1, he2⟩ := blocks (P.cellsOf e) (fun i => (q i).1) cap fun i hi => by rw [(hq i hi).2.1.1, hclen i hi]
          have hcell : ∀ i, i < cap → ∀ r, r < P.cellsOf e → w.cell? (((⟨ab, ao, asp⟩ : Addr).add (i * P.cellsOf e)).add r) = (q i).2[r]? := fun i hi => (World.cells?_some (hq i hi).1).2.2
          have hsp : asp = none := by
            have h0 := hcell 0 hcp 0 hok.1
            rw [List.getElem?_eq_getElem (by rw [hclen 0 hcp]; exact hok.1)] at h0
            have := World.cell?_spot h0
            simpa [Addr.add] using this
          subst hsp
          refine ⟨[.row es len cap], Hold.one ?_, .inr (.inr ⟨es, len, cap, rfl, hl, hcp, hcap, hRc, he1, fun i hi => by rw [he2 i hi]; exact (hq i hi).2.2⟩)⟩
          rw [deepOk_row]
          refine ⟨ab, ao, rfl, fun j hj => ?_⟩
          have hdiv : j / P.cellsOf e < cap := by rw [Nat.div_lt_iff_lt_mul hok.1, ← he1]; exact hj
          have hmod : j % P.cellsOf e < P.cellsOf e := Nat.mod_lt _ hok.1
          have hje : j / P.cellsOf e * P.cellsOf e + j % P.cellsOf e = j := by rw [Nat.mul_comm]; exact Nat.div_add_mod j _
          have hc := hcell _ hdiv _ hmod
          rw [addr_add, addr_add, Nat.add_assoc, hje, List.getElem?_eq_getElem (by rw [hclen _ hdiv]; exact hmod)] at hc
          refine ⟨block_lt_of_cell hc, trivial, _, hc, ?_⟩
          have hd : (q (j / P.cellsOf e)).1[j % P.cellsOf e]? = some es[j] := by
            have := he2 _ hdiv
            rw [← this, List.getElem?_take, if_pos hmod, List.getElem?_drop, hje, List.getElem?_eq_getElem]
          exact (hq _ hdiv).2.1.2 _ _ _ hd (List.getElem?_eq_getElem (by rw [hclen _ hdiv]; exact hmod))
    · cases hok
theorem deep_flat {pr : Nat → Prop} {vs : List Value} {len cap : Nat} {v : Value} (h : DeepOk pr w (.row (vs.map .val) len cap) v) : DeepOk pr w (.flat vs len cap) v := by
  rw [deepOk_row] at h
  rw [deepOk_flat]
  obtain ⟨b, o, rfl, hc⟩ := h
  refine ⟨b, o, rfl, fun i u hu => ?_⟩
  have hi : i < (vs.map Deep.val).length := by rw [List.length_map]; exact (List.getElem?_eq_some_iff.1 hu).1
  obtain ⟨h1, h2, u', h3, h4⟩ := hc i hi
  have he : (vs.map Deep.val)[i] = .val u := by
    have := List.getElem?_map (f := Deep.val) (l := vs) (i := i)
    rw [hu, List.getElem?_eq_getElem hi] at this
    simpa using this
  rw [he, deepOk_val] at h4
  obtain ⟨rfl, hp⟩ := h4
  exact ⟨h1, h2, h3, hp⟩

/-- A call on arguments that came in: what it comes to where they have names. -/
theorem below_of_named {f : FuncId} {ds : List Deep} {cs vs : List Value} {μL μL' : Hp} {v : Value} {w : World} (hd : Hold w ds cs) (hn : nameAll ds μ0 = some (vs, μL)) {args : List Value} {as : Array Value}
    (ha : ∀ ι, vs.map (conc ι) = cs → (args.map (conc ι)).toArray = as) (hL : LocalOk P f args μL (.returned v) μL') (hv : Pure v) :
    Calls P f as w fun e w' => e = .returned v ∧ RowKit.Below w.heap.size w w' := by
  obtain ⟨ι', h1, hS, _, _, _⟩ := nameAll_ok (sim0 w) hd.1.symm (fun i d u h1 h2 => hd.2 i d u h1 h2) hn
  rw [← ha ι' h1]
  exact below_of_local hL hv hS
end
end Go.Abs
end
