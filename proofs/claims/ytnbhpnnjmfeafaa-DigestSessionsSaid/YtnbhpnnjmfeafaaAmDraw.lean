/-
  The abstract machine: regions whose order is open. What the machine's own pass says, without a world.
-/
import Derived.Test.YtnbhpnnjmfeafaaAmDef
namespace Go.Abs
set_option linter.unusedVariables false
set_option linter.unusedSimpArgs false

/-! ### Counting -/
theorem countB_congr : ∀ (ls : List Bool) (p q : Nat → Bool) (i : Nat), (∀ k, ls[k]? = some true → p (i + k) = q (i + k)) → countB ls p i = countB ls q i
  | [], _, _, _, _ => rfl
  | b :: bs, p, q, i, h => by
    simp only [countB]
    rw [countB_congr bs p q (i + 1) fun k hk => by rw [Nat.add_assoc, Nat.add_comm 1 k]; exact h (k + 1) (by simpa using hk)]
    cases b with
    | false => rfl
    | true => rw [show p i = q i from h 0 rfl]
theorem countB_mono : ∀ (ls : List Bool) (p q : Nat → Bool) (i : Nat), (∀ k, ls[k]? = some true → p (i + k) = true → q (i + k) = true) → countB ls p i ≤ countB ls q i
  | [], _, _, _, _ => Nat.le_refl _
  | b :: bs, p, q, i, h => by
    simp only [countB]
    have := countB_mono bs p q (i + 1) fun k hk => by rw [Nat.add_assoc, Nat.add_comm 1 k]; exact h (k + 1) (by simpa using hk)
    have h0 := h 0
    cases b with
    | false => simpa using this
    | true =>
      simp only [List.getElem?_cons_zero, Nat.add_zero, forall_const] at h0
      cases hp : p i with
      | false => simp; omega
      | true => simp [h0 hp]; omega
theorem countB_shift : ∀ (ls : List Bool) (p q : Nat → Bool) (i j : Nat), (∀ k, p (i + k) = q (j + k)) → countB ls p i = countB ls q j
  | [], _, _, _, _, _ => rfl
  | b :: bs, p, q, i, j, h => by
    simp only [countB]
    rw [countB_shift bs p q (i + 1) (j + 1) fun k => by rw [Nat.add_assoc, Nat.add_assoc, Nat.add_comm 1 k]; exact h (k + 1), show p i = q j from h 0]
theorem countB_none : ∀ (ls : List Bool) (p : Nat → Bool) (i : Nat), (∀ k, p (i + k) = false) → countB ls p i = 0
  | [], _, _, _ => rfl
  | b :: bs, p, i, h => by
    simp only [countB]
    rw [countB_none bs p (i + 1) fun k => by rw [Nat.add_assoc, Nat.add_comm 1 k]; exact h (k + 1), show p i = false from h 0]
    simp
/-- One more is listed. -/
theorem countB_one : ∀ (ls : List Bool) (p q : Nat → Bool) (i j : Nat), p (i + j) = false → q (i + j) = true → (∀ k, k ≠ j → p (i + k) = q (i + k)) →
    countB ls q i = countB ls p i + (bif (ls[j]?).getD false then 1 else 0)
  | [], _, _, _, _, _, _, _ => by simp [countB]
  | b :: bs, p, q, i, 0, h0, h1, h => by
    simp only [countB, Nat.add_zero] at *
    rw [countB_congr bs q p (i + 1) fun k _ => by rw [Nat.add_assoc, Nat.add_comm 1 k]; exact (h (k + 1) (by omega)).symm, h0, h1]
    cases b <;> simp <;> omega
  | b :: bs, p, q, i, j + 1, h0, h1, h => by
    simp only [countB]
    have := countB_one bs p q (i + 1) j (by rw [Nat.add_assoc, Nat.add_comm 1 j]; exact h0) (by rw [Nat.add_assoc, Nat.add_comm 1 j]; exact h1) fun k hk => by rw [Nat.add_assoc, Nat.add_comm 1 k]; exact h (k + 1) (by omega)
    rw [this, show p i = q i from h 0 (by omega)]
    simp only [List.getElem?_cons_succ]
    omega
theorem countB_le : ∀ (ls : List Bool) (p : Nat → Bool) (i : Nat), countB ls p i ≤ ls.length
  | [], _, _ => Nat.le_refl _
  | b :: bs, p, i => by
    simp only [countB, List.length_cons]
    have := countB_le bs p (i + 1)
    cases b <;> cases p i <;> simp <;> omega
theorem countB_full : ∀ (n : Nat) (p : Nat → Bool) (i : Nat), countB (List.replicate n true) p i = n → ∀ k, k < n → p (i + k) = true
  | 0, _, _, _, k, hk => by omega
  | n + 1, p, i, h, k, hk => by
    simp only [List.replicate_succ, countB, Bool.true_and] at h
    have hl := countB_le (List.replicate n true) p (i + 1)
    simp only [List.length_replicate] at hl
    have hp : p i = true := by
      cases hp : p i with
      | true => rfl
      | false => simp [hp] at h; omega
    cases k with
    | zero => exact hp
    | succ k =>
      have := countB_full n p (i + 1) (by simp [hp] at h; omega) k (by omega)
      rw [Nat.add_assoc, Nat.add_comm 1 k] at this
      exact this

/-! ### What is before what -/
theorem one_spec (look : Nat → Nat) (i : Nat) : ∀ (l : List Edge) (s : Nat), (l.foldl (fun s e => if Region.binds .any e then s ||| 2 ^ e.on ||| look e.on else s) s).testBit i = true →
    s.testBit i = true ∨ ∃ e ∈ l, Region.binds .any e = true ∧ (e.on = i ∨ (look e.on).testBit i = true)
  | [], s, h => .inl h
  | e :: r, s, h => by
    simp only [List.foldl_cons] at h
    rcases one_spec look i r _ h with h | ⟨e', he', h⟩
    · cases hb : Region.binds .any e with
      | false => simp [hb] at h; exact .inl h
      | true =>
        simp only [hb, if_true, Nat.testBit_or, Bool.or_eq_true] at h
        rcases h with (h | h) | h
        · exact .inl h
        · rw [Nat.testBit_two_pow] at h
          exact .inr ⟨e, by simp, hb, .inl (by simpa using h)⟩
        · exact .inr ⟨e, by simp, hb, .inr h⟩
    · exact .inr ⟨e', by simp [he'], h⟩
theorem befA_spec : ∀ (l : List Oper) (b : List Nat), ∃ c, befA l b = b ++ c ∧ c.length = l.length ∧ ∀ j o, l[j]? = some o → c[j]? = some (CheckFast.one (fun i => ((b ++ c).take (b.length + j)).getD i 0) o)
  | [], b => ⟨[], by simp [befA], rfl, by simp⟩
  | o :: r, b => by
    obtain ⟨c, h1, h2, h3⟩ := befA_spec r (b ++ [CheckFast.one (fun i => b.getD i 0) o])
    refine ⟨CheckFast.one (fun i => b.getD i 0) o :: c, ?_, by simp [h2], ?_⟩
    · rw [befA, CheckFast.force_eq, h1]; simp
    · intro j o' hj
      cases j with
      | zero =>
        simp at hj; subst hj
        simp
      | succ j =>
        simp only [List.getElem?_cons_succ] at hj ⊢
        rw [h3 j o' hj]
        have e : b.length + 1 + j = b.length + (j + 1) := by omega
        simp only [List.length_append, List.length_singleton, List.append_assoc, List.singleton_append, e]
theorem befA_bit (ops : Array Oper) {j i : Nat} (h : ((befA ops.toList []).getD j 0).testBit i = true) :
    ∃ o, ops[j]? = some o ∧ ∃ e ∈ o.after, Region.binds .any e = true ∧ (e.on = i ∨ (e.on < j ∧ ((befA ops.toList []).getD e.on 0).testBit i = true)) := by
  obtain ⟨c, h1, h2, h3⟩ := befA_spec ops.toList []
  simp only [List.nil_append, List.length_nil, Nat.zero_add] at h1 h3
  rw [h1] at h ⊢
  rcases Nat.lt_or_ge j ops.toList.length with hj | hj
  · have ho : ops.toList[j]? = some ops.toList[j] := List.getElem?_eq_getElem hj
    have hc := h3 j _ ho
    rw [List.getD_eq_getElem?_getD, hc] at h
    refine ⟨ops.toList[j], by rw [← ho]; simp, ?_⟩
    unfold CheckFast.one at h
    rw [Option.getD_some, ← Array.foldl_toList] at h
    rcases one_spec (fun i => (List.take j c).getD i 0) i _ 0 h with h | ⟨e, he, hb, h⟩
    · simp at h
    · refine ⟨e, Array.mem_toList_iff.1 he, hb, ?_⟩
      rcases h with h | h
      · exact .inl h
      · right
        rw [List.getD_eq_getElem?_getD, List.getElem?_take] at h
        by_cases hlt : e.on < j
        · rw [if_pos hlt] at h
          exact ⟨hlt, by rw [List.getD_eq_getElem?_getD]; exact h⟩
        · rw [if_neg hlt] at h; simp at h
  · rw [List.getD_eq_getElem?_getD, List.getElem?_eq_none (by omega)] at h
    simp at h

/-- A set of operations with all that it asks for. -/
def Closed (ops : Array Oper) (L : Nat → Bool) : Prop := ∀ i, L i = true → ∀ o, ops[i]? = some o → ∀ e ∈ o.after, Region.binds .any e = true → L e.on = true
theorem bef_listed {ops : Array Oper} {L : Nat → Bool} (hL : Closed ops L) : ∀ (j i : Nat), (∀ o, ops[j]? = some o → ∀ e ∈ o.after, Region.binds .any e = true → L e.on = true) →
    ((befA ops.toList []).getD j 0).testBit i = true → L i = true := by
  intro j
  induction j using Nat.strongRecOn with
  | _ j ih =>
    intro i hj h
    obtain ⟨o, ho, e, he, hb, h⟩ := befA_bit ops h
    have hl := hj o ho e he hb
    rcases h with rfl | ⟨hlt, h⟩
    · exact hl
    · exact ih e.on hlt i (hL _ hl) h

/-! ### The text's check -/
theorem openFrom_spec {E : Env} {ops : Array Oper} {b : List Nat} : ∀ (l : List Oper) (k : Nat), openFrom E ops b l k = true → ∀ j o, l[j]? = some o →
    (∀ e ∈ o.after, Region.binds .any e = true → e.on < k + j) ∧ pairsOk E ops b o (k + j) ops.toList 0 = true
  | [], k, h, j, o, hj => by simp at hj
  | o' :: r, k, h, j, o, hj => by
    simp only [openFrom, Bool.and_eq_true] at h
    cases j with
    | zero =>
      simp at hj; subst hj
      refine ⟨fun e he hb => ?_, h.1.2⟩
      have := List.all_eq_true.1 h.1.1 e (Array.mem_toList_iff.2 he)
      simpa [hb, Nat.blt_eq] using this
    | succ j =>
      have := openFrom_spec r (k + 1) h.2 j o (by simpa using hj)
      rw [show k + (j + 1) = k + 1 + j by omega]
      exact this
theorem pairsOk_spec {E : Env} {ops : Array Oper} {b : List Nat} {oj : Oper} {j : Nat} : ∀ (l : List Oper) (k : Nat), pairsOk E ops b oj j l k = true → ∀ i o, l[i]? = some o → pairOk E ops b o (k + i) oj j = true
  | [], k, h, i, o, hi => by simp at hi
  | o' :: r, k, h, i, o, hi => by
    simp only [pairsOk, Bool.and_eq_true] at h
    cases i with
    | zero => simp at hi; subst hi; exact h.1
    | succ i =>
      have := pairsOk_spec r (k + 1) h.2 i o (by simpa using hi)
      rw [show k + (i + 1) = k + 1 + i by omega]
      exact this
structure OpenOk (E : Env) (ops : Array Oper) : Prop where
  edge : ∀ (j : Nat) (o : Oper), ops[j]? = some o → ∀ e ∈ o.after, Region.binds .any e = true → e.on < j
  dst : ∀ (i j : Nat) (oi oj : Oper) (d : Nat), ops[i]? = some oi → ops[j]? = some oj → oi.dst = some d → oj.dst = some d → i = j
  ord : ∀ (i j : Nat) (oi oj : Oper), ops[i]? = some oi → ops[j]? = some oj → loud E oi.op = true → loud E oj.op = true → i < j → ((befA ops.toList []).getD j 0).testBit i = true
  look : ∀ (i j : Nat) (oi oj : Oper) (d : Nat), ops[i]? = some oi → ops[j]? = some oj → oi.dst = some d → d ∈ oj.looksAt ops → i ≠ j ∧ (((befA ops.toList []).getD j 0).testBit i = true ∨ ((befA ops.toList []).getD i 0).testBit j = true)
theorem openOk_spec {E : Env} {ops : Array Oper} (h : openOk E ops (befA ops.toList []) = true) : OpenOk E ops := by
  have hp : ∀ i j oi oj, ops[i]? = some oi → ops[j]? = some oj → pairOk E ops (befA ops.toList []) oi i oj j = true := by
    intro i j oi oj hi hj
    have h1 := (openFrom_spec _ 0 h j oj (by simpa using hj)).2
    have h2 := pairsOk_spec _ 0 h1 i oi (by simpa using hi)
    simpa using h2
  refine ⟨fun j o hj e he hb => by simpa using (openFrom_spec _ 0 h j o (by simpa using hj)).1 e he hb, ?_, ?_, ?_⟩
  · intro i j oi oj d hi hj hd hd'
    have := hp i j oi oj hi hj
    unfold pairOk at this
    simp only [Bool.and_eq_true, Bool.or_eq_true] at this
    rcases this.1 with h | h
    · exact Nat.eq_of_beq_eq_true h
    · simp [dstEq, hd, hd', Nat.beq_refl] at h
  · intro i j oi oj hi hj hl hl' hlt
    have := hp i j oi oj hi hj
    unfold pairOk at this
    simp only [Bool.and_eq_true, Bool.or_eq_true] at this
    rcases this.1 with h | h
    · exact absurd (Nat.eq_of_beq_eq_true h) (by omega)
    · rcases h.2 with (h | h) | h
      · exact absurd (Nat.le_of_ble_eq_true h) (by omega)
      · simp [hl, hl'] at h
      · exact h
  · intro i j oi oj d hi hj hd hm
    have := hp i j oi oj hi hj
    unfold pairOk at this
    simp only [Bool.and_eq_true, Bool.or_eq_true, hd] at this
    rcases this.2 with h | h
    · exfalso
      simp only [Bool.not_eq_true', List.any_eq_false, looks] at h
      exact h d hm (Nat.beq_refl d)
    · refine ⟨fun e => ?_, h.2⟩
      subst e
      simp [Nat.beq_refl] at h

/-! ### Equal values -/
theorem beq_sound {a b : Nat} (h : Nat.beq a b = true) : a = b := Nat.eq_of_beq_eq_true h
mutual
theorem eqV_sound : ∀ (n : Nat) (a b : Value), eqV n a b = true → a = b
  | 0, a, b, h => by simp [eqV] at h
  | n + 1, a, b, h => by
    unfold eqV at h
    split at h
    · simpa using h
    · simp at h; rw [h.1, h.2]
    · simp at h; rw [h.1, h.2]
    · simp only [decide_eq_true_eq] at h
      rename_i x y
      obtain ⟨⟨x⟩⟩ := x
      obtain ⟨⟨y⟩⟩ := y
      simp at h; rw [h]
    · simp at h; rw [h]
    · simp at h; rw [h.1.1, h.1.2, h.2]
    · simp at h; rw [h]
    · rfl
    · rfl
    · simp only [Bool.and_eq_true, decide_eq_true_eq] at h
      rename_i f x c g x' c'
      obtain ⟨x⟩ := x; obtain ⟨x'⟩ := x'; obtain ⟨c⟩ := c; obtain ⟨c'⟩ := c'
      have h1 := eqVs_sound n _ _ h.1.2
      have h2 := eqVs_sound n _ _ h.2
      simp only at h1 h2
      rw [h.1.1, h1, h2]
    · simp only [Bool.and_eq_true] at h
      rw [Nat.eq_of_beq_eq_true h.1, eqV_sound n _ _ h.2]
    · rename_i x y
      obtain ⟨x⟩ := x; obtain ⟨y⟩ := y
      have h1 := eqVs_sound n _ _ h
      simp only at h1
      rw [h1]
    · rename_i x y
      obtain ⟨x⟩ := x; obtain ⟨y⟩ := y
      have h1 := eqVs_sound n _ _ h
      simp only at h1
      rw [h1]
    · simp at h
theorem eqVs_sound : ∀ (n : Nat) (a b : List Value), eqV.eqVs n a b = true → a = b
  | n, [], [], h => rfl
  | n, a :: as, b :: bs, h => by
    simp only [eqV.eqVs, Bool.and_eq_true] at h
    rw [eqV_sound n _ _ h.1, eqVs_sound n _ _ h.2]
  | n, [], b :: bs, h => by simp [eqV.eqVs] at h
  | n, a :: as, [], h => by simp [eqV.eqVs] at h
end

/-! ### The pass -/
/-- What a step says. -/
def Item (P : Program) (E : Env) (callF : CallF) (ops : Array Oper) (o : Oper) (s : Step) (heaps : List Hp) (k : Nat) : Prop :=
  (s.on = false → s.v = undef) ∧ s.on = wantedA ops s.fr o ∧
  (s.on = true → ∃ μ, heaps[k]? = some μ ∧
    ((loud E o.op = false ∧ ∃ μ', opA P E s.fr.ev o μ = .val s.v μ' ∧ μ'.next = μ.next) ∨
     (loud E o.op = true ∧ ∃ μ'', heaps[k + 1]? = some μ'' ∧ (opA P E s.fr.ev o μ = .val s.v μ'' ∨ ∃ f args μ', opA P E s.fr.ev o μ = .call f args μ' ∧ callF f args μ' = some (.returned s.v, μ'')))))
def frAt (steps : List Step) (fr' : Fr) (j : Nat) : Fr := ((steps[j]?).map (·.fr)).getD fr'
def loudL (E : Env) (l : List Oper) (steps : List Step) : List Bool := List.zipWith (fun o s => loud E o.op && s.on) l steps

structure Pass (P : Program) (E : Env) (callF : CallF) (ops : Array Oper) (l : List Oper) (fr : Fr) (μ : Hp) (k : Nat) (steps : List Step) (heaps : List Hp) (fr' : Fr) : Prop where
  len : steps.length = l.length
  hlen : heaps.length = countB (loudL E l steps) (fun _ => true) 0 + 1
  hd : heaps[0]? = some μ
  first : frAt steps fr' 0 = fr
  put : ∀ j o s, l[j]? = some o → steps[j]? = some s → s.fr = frAt steps fr' j ∧ s.fr.put o.dst s.v = some (frAt steps fr' (j + 1))
  k : ∀ j s, steps[j]? = some s → s.k = k + countB (loudL E l steps) (fun i => decide (i < j)) 0
  item : ∀ j o s, l[j]? = some o → steps[j]? = some s → Item P E callF ops o s heaps (countB (loudL E l steps) (fun i => decide (i < j)) 0)

theorem countB_cons (b : Bool) (bs : List Bool) (j : Nat) : countB (b :: bs) (fun i => decide (i < j + 1)) 0 = (bif b then 1 else 0) + countB bs (fun i => decide (i < j)) 0 := by
  simp only [countB]
  rw [countB_shift bs (fun i => decide (i < j + 1)) (fun i => decide (i < j)) (0 + 1) 0 fun k => by simp; omega]
  simp

theorem Pass.cons {P : Program} {E : Env} {callF : CallF} {ops : Array Oper} {o : Oper} {rest : List Oper} {fr fr1 : Fr} {μ μ1 : Hp} {k : Nat} {steps : List Step} {heaps heaps1 : List Hp} {fr' : Fr} {v : Value} {on : Bool}
    (b : Bool) (hb : b = (loud E o.op && on)) (hp : fr.put o.dst v = some fr1) (hP : Pass P E callF ops rest fr1 μ1 (k + bif b then 1 else 0) steps heaps fr')
    (hh : heaps1 = bif b then μ :: heaps else heaps) (hμ : b = false → μ1 = μ) (hI : Item P E callF ops o { fr, v, on, k } heaps1 0) :
    Pass P E callF ops (o :: rest) fr μ k ({ fr, v, on, k } :: steps) heaps1 fr' := by
  have hloud : loudL E (o :: rest) ({ fr, v, on, k } :: steps) = b :: loudL E rest steps := by simp [loudL, hb]
  have hshift : ∀ i, (bif b then μ :: heaps else heaps)[(bif b then 1 else 0) + i]? = heaps[i]? := by
    intro i; cases b <;> simp [Nat.add_comm 1 i]
  refine ⟨by simp [hP.len], ?_, ?_, by simp [frAt], ?_, ?_, ?_⟩
  · rw [hloud, hh]
    simp only [countB]
    rw [countB_shift _ (fun _ => true) (fun _ => true) (0 + 1) 0 fun _ => rfl]
    cases b <;> simp [hP.hlen] <;> omega
  · rw [hh]
    cases b with
    | true => rfl
    | false => simpa [hμ rfl] using hP.hd
  · intro j o' s ho hs
    cases j with
    | zero =>
      simp at ho hs; subst ho; subst hs
      refine ⟨by simp [frAt], ?_⟩
      have : frAt ({ fr, v, on, k } :: steps) fr' (0 + 1) = frAt steps fr' 0 := by simp [frAt]
      rw [this, hP.first]
      exact hp
    | succ j =>
      have := hP.put j o' s (by simpa using ho) (by simpa using hs)
      have e : ∀ j, frAt ({ fr, v, on, k } :: steps) fr' (j + 1) = frAt steps fr' j := fun j => by simp [frAt]
      rw [e, e]
      exact this
  · intro j s hs
    rw [hloud]
    cases j with
    | zero =>
      simp at hs; subst hs
      rw [countB_none _ _ _ fun k => by simp]
      simp
    | succ j =>
      rw [countB_cons, hP.k j s (by simpa using hs)]
      omega
  · intro j o' s ho hs
    rw [hloud]
    cases j with
    | zero =>
      simp at ho hs; subst ho; subst hs
      rw [countB_none _ _ _ fun k => by simp]
      exact hI
    | succ j =>
      rw [countB_cons]
      obtain ⟨h0, h1, h2⟩ := hP.item j o' s (by simpa using ho) (by simpa using hs)
      refine ⟨h0, h1, fun hon => ?_⟩
      obtain ⟨m, hm, h2⟩ := h2 hon
      refine ⟨m, by rw [hh, hshift]; exact hm, ?_⟩
      rcases h2 with h2 | ⟨h2, m', hm', h3⟩
      · exact .inl h2
      · exact .inr ⟨h2, m', by rw [hh, Nat.add_assoc, hshift]; exact hm', h3⟩

theorem steps_pass {P : Program} {E : Env} {callF : CallF} {ops : Array Oper} : ∀ (l : List Oper) (fr : Fr) (μ : Hp) (k : Nat) (steps : List Step) (heaps : List Hp) (fr' : Fr),
    stepsA P E callF ops l fr μ k = some (steps, heaps, fr') → Pass P E callF ops l fr μ k steps heaps fr' := by
  intro l
  induction l with
  | nil =>
    intro fr μ k steps heaps fr' h
    simp [stepsA] at h
    obtain ⟨rfl, rfl, rfl⟩ := h
    exact ⟨rfl, rfl, rfl, rfl, by simp, by simp, by simp⟩
  | cons o rest ih =>
    intro fr μ k steps heaps fr' h
    simp only [stepsA] at h
    split at h
    · rename_i hw
      cases hp : fr.put o.dst undef with
      | none => simp [hp] at h
      | some fr1 =>
        simp only [hp, Option.map_eq_some_iff] at h
        obtain ⟨⟨steps1, heaps1, fr1'⟩, h1, h2⟩ := h
        simp only [Prod.mk.injEq] at h2
        obtain ⟨rfl, rfl, rfl⟩ := h2
        exact Pass.cons false (by simp) hp (ih _ _ _ _ _ _ h1) rfl (fun _ => rfl) ⟨fun _ => rfl, hw.symm, by simp⟩
    · rename_i hw
      split at h
      · rename_i v μ1 ho hl
        cases hn : Nat.beq μ1.next μ.next with
        | false => simp [hn] at h
        | true =>
          simp only [hn, cond_true] at h
          cases hp : fr.put o.dst v with
          | none => simp [hp] at h
          | some fr1 =>
            simp only [hp, Option.map_eq_some_iff] at h
            obtain ⟨⟨steps1, heaps1, fr1'⟩, h1, h2⟩ := h
            simp only [Prod.mk.injEq] at h2
            obtain ⟨rfl, rfl, rfl⟩ := h2
            have hP := ih _ _ _ _ _ _ h1
            exact Pass.cons false (by simp [hl]) hp hP rfl (fun _ => rfl) ⟨by simp, hw.symm, fun _ => ⟨μ, hP.hd, .inl ⟨hl, μ1, ho, beq_sound hn⟩⟩⟩
      · rename_i v μ1 ho hl
        cases hp : fr.put o.dst v with
        | none => simp [hp] at h
        | some fr1 =>
          simp only [hp, Option.map_eq_some_iff] at h
          obtain ⟨⟨steps1, heaps1, fr1'⟩, h1, h2⟩ := h
          simp only [Prod.mk.injEq] at h2
          obtain ⟨rfl, rfl, rfl⟩ := h2
          have hP := ih _ _ _ _ _ _ h1
          exact Pass.cons true (by simp [hl]) hp hP rfl (by simp) ⟨by simp, hw.symm, fun _ => ⟨μ, rfl, .inr ⟨hl, μ1, by simpa using hP.hd, .inl ho⟩⟩⟩
      · rename_i f args μ1 ho hl
        split at h
        · rename_i v μ2 hc
          cases hp : fr.put o.dst v with
          | none => simp [hp] at h
          | some fr1 =>
            simp only [hp, Option.map_eq_some_iff] at h
            obtain ⟨⟨steps1, heaps1, fr1'⟩, h1, h2⟩ := h
            simp only [Prod.mk.injEq] at h2
            obtain ⟨rfl, rfl, rfl⟩ := h2
            have hP := ih _ _ _ _ _ _ h1
            exact Pass.cons true (by simp [hl]) hp hP rfl (by simp) ⟨by simp, hw.symm, fun _ => ⟨μ, rfl, .inr ⟨hl, μ2, by simpa using hP.hd, .inr ⟨f, args, μ1, ho, hc⟩⟩⟩⟩
        · simp at h
      · simp at h
end Go.Abs
