/-
  The abstract machine: regions whose order is open.
-/
import Derived.Test.YtnbhpnnjmfeafaaAmDraw
import Derived.Test.YtnbhpnnjmfeafaaAmCode
namespace Go.Abs
set_option linter.unusedVariables false
set_option linter.unusedSimpArgs false
set_option linter.unusedSectionVars false

/-! ### A quiet operation leaves the heap -/
theorem ofV_same {μ μ' : Hp} {r : Option Value} {v : Value} (h : ofV μ r = .val v μ') : μ' = μ := by
  cases r with
  | none => simp [ofV] at h
  | some x => simp [ofV] at h; exact h.2.symm
theorem ofPR_same {μ μ' : Hp} {r : PR Value} {v : Value} (h : ofPR μ r = .val v μ') : μ' = μ := by
  unfold ofPR at h
  split at h
  · rename_i x; cases hf : flat x <;> simp [hf] at h; exact h.2.symm
  · rename_i x; cases hf : flat x <;> simp [hf] at h
  · simp at h
theorem binOpA_same {P : Program} {E : Env} {op : BinOp} {t : TypeId} {ox oy : Operand} {x y v : Value} {μ μ' : Hp} (h : binOpA P E op t ox oy x y μ = .val v μ') : μ' = μ := by
  unfold binOpA at h
  split at h
  · split at h
    · cases hc : (constOp ox || constOp oy) <;> simp [hc] at h; exact h.2.symm
    · simp at h
  · split at h
    · cases hc : (constOp ox || constOp oy) <;> simp [hc] at h; exact h.2.symm
    · simp at h
  · cases hc : (flat x && flat y) with
    | true => rw [hc, cond_true] at h; exact ofPR_same h
    | false =>
      rw [hc, cond_false] at h
      split at h <;> simp at h <;> exact h.2.symm
theorem convertA_same {P : Program} {E : Env} {s d : TypeId} {x v : Value} {μ μ' : Hp} (hl : (match E.und d with | some (.slice _) => true | _ => false) = false)
    (h : convertA P E s d x μ = .val v μ') : μ' = μ := by
  unfold convertA at h
  split at h
  · simp at h; exact h.2.symm
  · simp at h; exact h.2.symm
  · rename_i hd; rw [hd] at hl; simp at hl
  · split at h <;> simp at h; exact h.2.symm
  · split at h
    · split at h <;> simp at h; exact h.2.symm
    · simp at h
  · exact ofPR_same h
  · exact ofPR_same h
  · simp at h
theorem sliceA_same {E : Env} {t : TypeId} {x v : Value} {lo hi mx : Option Value} {μ μ' : Hp} (h : sliceA E t x lo hi mx μ = some (v, μ')) (hn : μ'.next = μ.next) : μ' = μ := by
  unfold sliceA at h
  split at h
  · split at h
    · split at h <;> simp at h; exact h.2.symm
    · simp at h
  · split at h
    · split at h
      · simp at h; exact h.2.symm
      · split at h
        · rename_i k μ1 hnew
          simp at h
          rw [← h.2] at hn
          unfold Hp.new at hnew
          cases hlt : Nat.blt μ.next limit <;> simp [hlt] at hnew
          rw [← hnew.2] at hn
          simp at hn
        · simp at h
      · simp at h; exact h.2.symm
    · simp at h
  · split at h <;> simp at h; exact h.2.symm
  · split at h <;> simp at h; exact h.2.symm
  · simp at h

theorem quiet_same {P : Program} {E : Env} {ev : Operand → Value} {o : Oper} {v : Value} {μ μ' : Hp} (hl : loud E o.op = false) (h : opA P E ev o μ = .val v μ') (hn : μ'.next = μ.next) : μ' = μ := by
  unfold opA at h
  cases hops : o.op.operands.toList.all (okOpnd E) with
  | false => rw [hops, cond_false] at h; simp at h
  | true =>
    rw [hops, cond_true] at h
    obtain ⟨dst, op, type, pos, after, guard⟩ := o
    cases op <;> simp only [loud] at hl <;> simp only at h <;> try (first | contradiction | exact ofV_same h | exact binOpA_same h | (simp at h; exact h.2.symm) | (simp at h; done))
    case pick => split at h <;> simp at h <;> exact h.2.symm
    case load => split at h <;> first | exact ofV_same h | (simp at h; done)
    case unOp op t x =>
      cases hf : flat (ev x) <;> rw [hf] at h <;> simp only [cond_true, cond_false] at h
      · simp at h
      · exact ofPR_same h
    case convert s d x => exact convertA_same hl h
    case makeInterface => split at h <;> simp at h; exact h.2.symm
    case slice t x lo hi mx =>
      unfold ofVal at h
      split at h
      · rename_i hs
        simp at h
        obtain ⟨rfl, rfl⟩ := h
        exact sliceA_same hs hn
      · simp at h
    case fieldAddr =>
      split at h
      · split at h <;> simp at h; exact h.2.symm
      · simp at h
    case field => split at h <;> first | exact ofV_same h | (simp at h; done)
    case extract => split at h <;> first | exact ofV_same h | (simp at h; done)
    case call c =>
      obtain ⟨callee, args, argTypes⟩ := c
      cases callee with
      | value f => simp at hl
      | invoke r m => simp at hl
      | builtin b =>
        cases b <;> simp only [builtinA] at h <;> simp only at hl <;> try (first | contradiction | exact ofV_same h)
        all_goals (
          cases hf : (List.map ev args.toList).all flat <;> rw [hf] at h <;> simp only [cond_true, cond_false] at h
          · simp at h
          · exact ofPR_same h)

section
variable {P : Program} {E : Env} {pr : Nat → Prop} {w0 : World} (hE : EnvOk P E)

theorem put_spec {fr fr1 : Fr} {dst : Option Tmp} {v : Value} (hlim : fr.sz < limit) (h : fr.put dst v = some fr1) : fr1.sz = fr.sz ∧ fr1.df = fr.df ∧ (∀ t, dst = some t → fr1.get t = v) ∧ ∀ t, dst ≠ some t → fr1.get t = fr.get t := by
  unfold Fr.put at h
  cases dst with
  | none => simp at h; subst h; exact ⟨rfl, rfl, by simp, fun _ _ => rfl⟩
  | some d =>
    simp only at h
    cases hd : Nat.blt d fr.sz with
    | false => simp [hd] at h
    | true =>
      simp [hd] at h
      subst h
      have hlt : d < fr.sz := by simpa [Nat.blt_eq] using hd
      refine ⟨rfl, rfl, fun t ht => ?_, fun t ht => ?_⟩
      · simp at ht; subst ht; rw [get_set (Nat.lt_trans hlt hlim), if_pos rfl]
      · rw [get_set (Nat.lt_trans hlt hlim), if_neg (fun e => ht (by rw [e]))]
theorem put_same {frA frB frB1 : Fr} {dst : Option Tmp} {v : Value} (hsz : frA.sz = frB.sz) (h : frB.put dst v = some frB1) : ∃ frA1, frA.put dst v = some frA1 := by
  unfold Fr.put at *
  cases dst with
  | none => exact ⟨_, rfl⟩
  | some d =>
    simp only at *
    rw [hsz]
    cases hd : Nat.blt d frB.sz with
    | false => simp [hd] at h
    | true => exact ⟨_, rfl⟩

/-- A frame of the region's: which operations have been. -/
structure At (ops : Array Oper) (steps : List Step) (fr : Fr) (L : Nat → Prop) (f : Fr) : Prop where
  sz : f.sz = fr.sz
  df : f.df = fr.df
  yes : ∀ (i : Nat) (o : Oper) (s : Step) (t : Nat), ops[i]? = some o → steps[i]? = some s → o.dst = some t → L i → f.get t = s.v
  no : ∀ (t : Nat), (∀ (i : Nat) (o : Oper), ops[i]? = some o → o.dst = some t → ¬ L i) → f.get t = fr.get t
theorem At.put {ops : Array Oper} {steps : List Step} {fr f f1 : Fr} {L L' : Nat → Prop} (hdst : ∀ (i j : Nat) (oi oj : Oper) (d : Nat), ops[i]? = some oi → ops[j]? = some oj → oi.dst = some d → oj.dst = some d → i = j)
    (hlim : fr.sz < limit) (h : At ops steps fr L f) {j : Nat} {o : Oper} {s : Step} (ho : ops[j]? = some o) (hs : steps[j]? = some s) (hp : f.put o.dst s.v = some f1)
    (hL : ∀ i, L' i ↔ L i ∨ i = j) : At ops steps fr L' f1 := by
  obtain ⟨h1, h2, h3, h4⟩ := put_spec (by rw [h.sz]; exact hlim) hp
  refine ⟨h1.trans h.sz, h2.trans h.df, fun i o' s' t hi hs' hd hl => ?_, fun t hno => ?_⟩
  · by_cases hij : i = j
    · subst hij
      rw [ho] at hi; simp at hi; subst hi
      rw [hs] at hs'; simp at hs'; subst hs'
      exact h3 t hd
    · rw [h4 t fun e => hij (hdst i j o' o t hi ho hd e)]
      exact h.yes i o' s' t hi hs' hd (((hL i).1 hl).resolve_right hij)
  · have hne : o.dst ≠ some t := fun e => hno j o ho e ((hL j).2 (.inr rfl))
    rw [h4 t hne]
    exact h.no t fun i o' hi hd hl => hno i o' hi hd ((hL i).2 (.inl hl))
theorem frames {callF : CallF} {ops : Array Oper} {fr : Fr} {μ : Hp} {steps : List Step} {heaps : List Hp} {fr' : Fr} (hO : OpenOk E ops) (hlim : fr.sz < limit)
    (hP : Pass P E callF ops ops.toList fr μ 0 steps heaps fr') : ∀ j, j ≤ ops.size → At ops steps fr (fun i => i < j) (frAt steps fr' j) := by
  intro j
  induction j with
  | zero => intro _; rw [hP.first]; exact ⟨rfl, rfl, fun i o s t _ _ _ h => absurd h (by omega), fun _ _ => rfl⟩
  | succ j ih =>
    intro hj
    have ho : ops[j]? = some ops[j] := Array.getElem?_eq_getElem (by omega)
    have hs : ∃ s, steps[j]? = some s := ⟨_, List.getElem?_eq_getElem (by rw [hP.len]; simp; omega)⟩
    obtain ⟨s, hs⟩ := hs
    obtain ⟨h1, h2⟩ := hP.put j ops[j] s (by rw [Array.getElem?_toList]; exact ho) hs
    have hA := ih (by omega)
    rw [← h1] at hA
    exact hA.put hO.dst hlim ho hs h2 fun i => by omega

theorem bef_lt {ops : Array Oper} (hO : OpenOk E ops) : ∀ (j i : Nat), ((befA ops.toList []).getD j 0).testBit i = true → i < j := by
  intro j
  induction j using Nat.strongRecOn with
  | _ j ih =>
    intro i h
    obtain ⟨o, ho, e, he, hb, h⟩ := befA_bit ops h
    have hl := hO.edge j o ho e he hb
    rcases h with rfl | ⟨hlt, h⟩
    · exact hl
    · exact Nat.lt_trans (ih e.on hlt i h) hlt

theorem look_same {ops : Array Oper} {steps : List Step} {fr f g : Fr} {L : Nat → Bool} (hO : OpenOk E ops) (hlen : steps.length = ops.size) (hcl : Closed ops L) {j : Nat} {oj : Oper} (hj : ops[j]? = some oj) (hun : L j = false)
    (hrd : ∀ o, ops[j]? = some o → ∀ e ∈ o.after, Region.binds .any e = true → L e.on = true) (hf : At ops steps fr (fun i => L i = true) f) (hg : At ops steps fr (fun i => i < j) g) {t : Nat} (ht : t ∈ oj.looksAt ops) : f.get t = g.get t := by
  by_cases hex : ∃ (i : Nat) (oi : Oper), ops[i]? = some oi ∧ oi.dst = some t
  · obtain ⟨i, oi, hi, hd⟩ := hex
    obtain ⟨hne, hbit⟩ := hO.look i j oi oj t hi hj hd ht
    have hs : ∃ s, steps[i]? = some s := ⟨_, List.getElem?_eq_getElem (by rw [hlen]; exact (Array.getElem?_eq_some_iff.1 hi).1)⟩
    obtain ⟨s, hs⟩ := hs
    rcases hbit with hb | hb
    · rw [hf.yes i oi s t hi hs hd (bef_listed hcl j i hrd hb), hg.yes i oi s t hi hs hd (bef_lt hO j i hb)]
    · have hlt := bef_lt hO i j hb
      have hnl : L i = false := by
        cases hl : L i with
        | false => rfl
        | true => rw [bef_listed hcl i j (hcl i hl) hb] at hun; simp at hun
      rw [hf.no t fun i' o' hi' hd' => by rw [hO.dst i' i o' oi t hi' hi hd' hd, hnl]; simp, hg.no t fun i' o' hi' hd' => by have := hO.dst i' i o' oi t hi' hi hd' hd; omega]
  · rw [hf.no t fun i o hi hd => absurd ⟨i, o, hi, hd⟩ hex, hg.no t fun i o hi hd => absurd ⟨i, o, hi, hd⟩ hex]
theorem wantedA_congr {ops : Array Oper} {f g : Fr} {o : Oper} (h : ∀ t ∈ o.looksAt ops, f.get t = g.get t) : wantedA ops f o = wantedA ops g o := by
  unfold wantedA
  cases hg : o.guard with
  | none => rfl
  | some q =>
    obtain ⟨j, want⟩ := q
    simp only
    cases hd : (ops[j]?).bind (·.dst) with
    | none => rfl
    | some d => simp only; rw [h d (by simp [Oper.looksAt, hg, hd])]
theorem ev_congr {ops : Array Oper} {f g : Fr} {o : Oper} (h : ∀ t ∈ o.looksAt ops, f.get t = g.get t) : ∀ x ∈ o.op.operands, f.ev x = g.ev x := by
  intro x hx
  cases x with
  | tmp t => exact h t (by simp only [Oper.looksAt]; exact List.mem_append_left _ (List.mem_filterMap.2 ⟨.tmp t, by simpa using hx, rfl⟩))
  | const v => rfl
  | global n => rfl
  | func n => rfl

theorem ready_nil {ops : Array Oper} {listed : Array Bool} (hO : OpenOk E ops) (hsz : listed.size = ops.size) (h : Region.ready .any ops listed = []) : ∀ j, j < ops.size → listed.getD j false = true := by
  intro j
  induction j using Nat.strongRecOn with
  | _ j ih =>
    intro hj
    cases hl : listed.getD j false with
    | true => rfl
    | false =>
      exfalso
      have ho : ops[j]? = some ops[j] := Array.getElem?_eq_getElem hj
      have hm : j ∈ Region.ready .any ops listed := by
        rw [mem_ready]
        refine ⟨by simpa [Array.getD, hsz, hj] using hl, _, ho, fun e he hb => ?_⟩
        have hlt := hO.edge j _ ho e he hb
        exact ih e.on hlt (by omega)
      rw [h] at hm
      simp at hm

theorem heapsOk_spec {o : Oper} {s : Step} {lo hi : Nat} : ∀ (hs : List Hp) (k : Nat), heapsOk P E o s lo hi hs k = true → ∀ i μ, hs[i]? = some μ → lo ≤ k + i → k + i ≤ hi → sameAt P E o s μ = true
  | [], k, h, i, μ, hi', _, _ => by simp at hi'
  | m :: r, k, h, i, μ, hi', h1, h2 => by
    simp only [heapsOk, Bool.and_eq_true, Bool.or_eq_true, Nat.blt_eq] at h
    cases i with
    | zero =>
      simp at hi'; subst hi'
      rcases h.1 with (h | h) | h
      · omega
      · omega
      · exact h
    | succ i => exact heapsOk_spec r (k + 1) h.2 i μ (by simpa using hi') (by omega) (by omega)
theorem quietOk_spec {b : List Nat} {ls : List Bool} {heaps : List Hp} : ∀ (l : List Oper) (ss : List Step) (k : Nat), quietOk P E b ls heaps l ss k = true → ∀ j o s, l[j]? = some o → ss[j]? = some s → quietAt P E b ls heaps o s (k + j) = true
  | [], _, k, h, j, o, s, hj, _ => by simp at hj
  | _ :: _, [], k, h, j, o, s, _, hs => by simp at hs
  | o' :: l, s' :: ss, k, h, j, o, s, hj, hs => by
    simp only [quietOk, Bool.and_eq_true] at h
    cases j with
    | zero => simp at hj hs; subst hj; subst hs; exact h.1
    | succ j =>
      have := quietOk_spec l ss (k + 1) h.2 j o s (by simpa using hj) (by simpa using hs)
      rw [show k + (j + 1) = k + 1 + j by omega]
      exact this

include hE
theorem drawn_go {callF : CallF} (hC : CallsOk P pr w0 E.ng callF) {ops : Array Oper} {Q : Exit → Act → World → Prop} {ι : Ren} {μ : Hp} {fr : Fr} {fr' : Fr} {μ' : Hp} {steps : List Step} {heaps : List Hp}
    (hO : OpenOk E ops) (hlim : fr.sz < limit) (hP : Pass P E callF ops ops.toList fr μ 0 steps heaps fr') (hq : quietOk P E (befA ops.toList []) (loudL E ops.toList steps) heaps ops.toList steps 0 = true)
    (hlast : heaps.getLast? = some μ') (hG : Goal pr w0 E.ng ι μ Q .normal fr' μ') :
    ∀ (fuel : Nat) (listed : Array Bool) (a : Act) (w : World), listed.size = ops.size → fuel + countB (List.replicate ops.size true) (fun i => listed.getD i false) 0 = ops.size → Closed ops (fun i => listed.getD i false) →
      (∃ ι1 f μ1, heaps[countB (loudL E ops.toList steps) (fun i => listed.getD i false) 0]? = some μ1 ∧ Sim pr w0 E.ng ι1 μ1 w ∧ Ext μ.next ι ι1 ∧ μ.next ≤ μ1.next ∧ FrRel ι1 μ1.next f a ∧ At ops steps fr (fun i => listed.getD i false = true) f) →
      wpAny P .any ops Q fuel listed a w := by
  have hlen : steps.length = ops.size := by simpa using hP.len
  have hll : (loudL E ops.toList steps).length = ops.size := by simp [loudL, hlen]
  have hend : ∀ (listed : Array Bool) (a : Act) (w : World), (∀ j, j < ops.size → listed.getD j false = true) →
      (∃ ι1 f μ1, heaps[countB (loudL E ops.toList steps) (fun i => listed.getD i false) 0]? = some μ1 ∧ Sim pr w0 E.ng ι1 μ1 w ∧ Ext μ.next ι ι1 ∧ μ.next ≤ μ1.next ∧ FrRel ι1 μ1.next f a ∧ At ops steps fr (fun i => listed.getD i false = true) f) →
      Q .normal a w := by
    rintro listed a w hall ⟨ι1, f, μ1, hμ1, hS, hx, hle, hF, hA⟩
    have hc : countB (loudL E ops.toList steps) (fun i => listed.getD i false) 0 = heaps.length - 1 := by
      rw [hP.hlen, Nat.add_sub_cancel]
      refine countB_congr _ _ _ _ fun k hk => ?_
      have hk' : k < ops.size := by rw [← hll]; exact (List.getElem?_eq_some_iff.1 hk).1
      simpa using hall k hk'
    rw [hc, ← List.getLast?_eq_getElem?, hlast] at hμ1
    simp at hμ1; subst hμ1
    have hA' := frames hO hlim hP ops.size (Nat.le_refl _)
    have hfr' : frAt steps fr' ops.size = fr' := by unfold frAt; rw [List.getElem?_eq_none (by omega)]; rfl
    rw [hfr'] at hA'
    have hget : ∀ t, f.get t = fr'.get t := by
      intro t
      by_cases hex : ∃ (i : Nat) (oi : Oper), ops[i]? = some oi ∧ oi.dst = some t
      · obtain ⟨i, oi, hi, hd⟩ := hex
        have hlt : i < ops.size := (Array.getElem?_eq_some_iff.1 hi).1
        have hs : steps[i]? = some steps[i] := List.getElem?_eq_getElem (by omega)
        rw [hA.yes i oi _ t hi hs hd (hall i hlt), hA'.yes i oi _ t hi hs hd hlt]
      · rw [hA.no t fun i o hi hd => absurd ⟨i, o, hi, hd⟩ hex, hA'.no t fun i o hi hd => absurd ⟨i, o, hi, hd⟩ hex]
    refine hG ι1 a w hx hle hS ⟨?_, ?_, fun t => ?_, ?_, fun d hd => ?_⟩
    · rw [hF.size, hA.sz, hA'.sz]
    · rw [hA'.sz]; exact hlim
    · rw [← hget t]; exact hF.tmp t
    · rw [hF.df, hA.df, hA'.df]
    · exact hF.bd d (by rw [hA.df, ← hA'.df]; exact hd)
  intro fuel
  induction fuel with
  | zero =>
    intro listed a w hsz hcnt hcl hI
    have hall : ∀ j, j < ops.size → listed.getD j false = true := fun j hj => by simpa using countB_full ops.size _ 0 (by simpa using hcnt) j hj
    refine ⟨?_, hend listed a w hall hI⟩
    cases hr : Region.ready .any ops listed with
    | nil => rfl
    | cons j r =>
      exfalso
      have hm : j ∈ Region.ready .any ops listed := by rw [hr]; simp
      rw [mem_ready] at hm
      obtain ⟨h0, o, ho, _⟩ := hm
      have hj : j < ops.size := (Array.getElem?_eq_some_iff.1 ho).1
      have := hall j hj
      simp [Array.getD, hsz, hj] at this h0
      rw [this] at h0
      simp at h0
  | succ fuel ih =>
    intro listed a w hsz hcnt hcl hI
    refine ⟨fun hr => hend listed a w (ready_nil hO hsz hr) hI, fun j hj => ?_⟩
    rw [mem_ready] at hj
    obtain ⟨h0, o, ho, hed⟩ := hj
    have hlt : j < ops.size := (Array.getElem?_eq_some_iff.1 ho).1
    have hun : listed.getD j false = false := by simpa [Array.getD, hsz, hlt] using h0
    obtain ⟨ι1, f, μ1, hμ1, hS, hx, hle, hF, hA⟩ := hI
    have hs : steps[j]? = some steps[j] := List.getElem?_eq_getElem (by omega)
    generalize steps[j] = s at hs
    obtain ⟨hp1, hp2⟩ := hP.put j o s (by simpa using ho) hs
    have hAj := frames hO hlim hP j (by omega)
    rw [← hp1] at hAj
    have hrd : ∀ o', ops[j]? = some o' → ∀ e ∈ o'.after, Region.binds .any e = true → listed.getD e.on false = true := by
      intro o' ho' e he hb
      rw [ho] at ho'; simp at ho'; subst ho'
      exact hed e he hb
    have hlook : ∀ t ∈ o.looksAt ops, f.get t = s.fr.get t := fun t ht => look_same hO hlen hcl ho hun hrd hA hAj ht
    have hlsj : (loudL E ops.toList steps)[j]? = some (loud E o.op && s.on) := by
      have ho' : ops.toList[j]? = some o := by simpa using ho
      simp only [loudL, List.getElem?_zipWith, ho', hs]
    have hL' : ∀ k, k ≠ j → (listed.setIfInBounds j true).getD k false = listed.getD k false := fun k hk => getD_set_ne false (Ne.symm hk)
    have hLj : (listed.setIfInBounds j true).getD j false = true := by simp [Array.getD, hsz, hlt]
    have hcount := countB_one (loudL E ops.toList steps) (fun i => listed.getD i false) (fun i => (listed.setIfInBounds j true).getD i false) 0 j (by simpa using hun) (by simpa using hLj) (fun k hk => by simpa using (hL' k hk).symm)
    rw [hlsj, Option.getD_some] at hcount
    have hnext : ∀ ι2 μ2 w2, heaps[countB (loudL E ops.toList steps) (fun i => listed.getD i false) 0 + (bif (loud E o.op && s.on) then 1 else 0)]? = some μ2 → Sim pr w0 E.ng ι2 μ2 w2 → Ext μ1.next ι1 ι2 → μ1.next ≤ μ2.next → Bd μ2.next s.v →
        wpAny P .any ops Q fuel (listed.setIfInBounds j true) (a.put o.dst (conc ι2 s.v)) w2 := by
      intro ι2 μ2 w2 hh hS2 hx2 hl2 hb2
      refine ih _ _ _ (by simp [hsz]) ?_ ?_ ?_
      · have := countB_one (List.replicate ops.size true) (fun i => listed.getD i false) (fun i => (listed.setIfInBounds j true).getD i false) 0 j (by simpa using hun) (by simpa using hLj) (fun k hk => by simpa using (hL' k hk).symm)
        rw [List.getElem?_replicate, if_pos hlt] at this
        simp only [Option.getD_some, cond_true] at this
        omega
      · intro i hi o' ho' e he hb
        by_cases hij : i = j
        · subst hij; exact getD_set_true (hrd o' ho' e he hb)
        · exact getD_set_true (hcl i (by have := hL' i hij; simp only at hi ⊢; rw [← this]; exact hi) o' ho' e he hb)
      · obtain ⟨f2, hf2⟩ := put_same (by rw [hA.sz, hAj.sz]) hp2
        refine ⟨ι2, f2, μ2, by rw [hcount]; exact hh, hS2, hx.trans hx2 hle, by omega, (hF.mono hx2 hl2).put hf2 hb2, hA.put hO.dst hlim ho hs hf2 fun i => ?_⟩
        by_cases hij : i = j
        · subst hij; simp only [hLj, or_true]
        · rw [hL' i hij]; simp [hij]
    obtain ⟨hoff, hon, hitem⟩ := hP.item j o s (by simpa using ho) hs
    unfold wpOp
    simp only [ho]
    rw [wanted_eq hF, wantedA_congr hlook, ← hon]
    cases hson : s.on with
    | false =>
      simp only [Bool.false_eq_true, if_false]
      have := hnext ι1 μ1 w (by simpa [hson] using hμ1) hS (Ext.refl _ _) (Nat.le_refl _) (by rw [hoff hson]; simp)
      rw [hoff hson, conc_undef] at this
      exact this
    | true =>
      simp only [if_true]
      left
      have hrel := op_rel (ng := E.ng) hE hS o a.eval s.fr.ev (fun x hx hok => by rw [← ev_congr hlook x hx]; exact ev_ok hS hF x hok)
      obtain ⟨m, hm, hitem⟩ := hitem hson
      unfold Oper.wp
      rcases hitem with ⟨hquiet, hitem⟩ | ⟨hloud, μ2, hμ2, hitem⟩
      · -- a quiet operation: the same in this heap
        have hop : opA P E s.fr.ev o μ1 = .val s.v μ1 := by
          have hqa := quietOk_spec _ _ 0 hq j o s (by simpa using ho) hs
          unfold quietAt at hqa
          simp only [hquiet, hson, Bool.not_true, Bool.or_self, Bool.false_or, Nat.zero_add, Bool.or_eq_true, Bool.and_eq_true] at hqa
          have hlo : countB (loudL E ops.toList steps) (fun i => ((befA ops.toList []).getD j 0).testBit i) 0 ≤ countB (loudL E ops.toList steps) (fun i => listed.getD i false) 0 :=
            countB_mono _ _ _ _ fun k _ hk => by simp only [Nat.zero_add] at hk ⊢; exact bef_listed hcl j k hrd hk
          have hhi : countB (loudL E ops.toList steps) (fun i => listed.getD i false) 0 ≤ countB (loudL E ops.toList steps) (fun i => !((befA ops.toList []).getD i 0).testBit j) 0 :=
            countB_mono _ _ _ _ fun k _ hk => by
              simp only [Nat.zero_add] at hk ⊢
              cases hb : ((befA ops.toList []).getD k 0).testBit j with
              | false => rfl
              | true => have := bef_listed hcl k j (hcl k hk) hb; rw [hun] at this; simp at this
          rcases hqa with ⟨h1, h2⟩ | hqa
          · have h1 := beq_sound h1
            have h2 := beq_sound h2
            have hk := hP.k j s hs
            have : countB (loudL E ops.toList steps) (fun i => listed.getD i false) 0 = countB (loudL E ops.toList steps) (fun i => decide (i < j)) 0 := by omega
            rw [this, hm] at hμ1
            simp at hμ1; subst hμ1
            obtain ⟨m', h3, h4⟩ := hitem
            rw [h3, quiet_same hquiet h3 h4]
          · have := heapsOk_spec heaps 0 hqa _ μ1 hμ1 (by omega) (by omega)
            unfold sameAt at this
            split at this
            · rename_i v m' h3
              simp only [Bool.and_eq_true] at this
              rw [h3, quiet_same hquiet h3 (beq_sound this.1), eqV_sound _ _ _ this.2]
            · simp at this
        rw [hop] at hrel
        obtain ⟨ι2, w2, hr, hS2, hx2, hl2, hb2⟩ := hrel
        have := hnext ι2 μ1 w2 (by simpa [hquiet] using hμ1) hS2 hx2 hl2 hb2
        rcases hr with hr | ⟨hr, hv⟩
        · rw [hr]; exact this
        · rw [hr]; rw [hv, conc_undef] at this; exact this
      · -- a loud one: its turn has come
        have hk : countB (loudL E ops.toList steps) (fun i => listed.getD i false) 0 = countB (loudL E ops.toList steps) (fun i => decide (i < j)) 0 := by
          refine countB_congr _ _ _ _ fun k hk => ?_
          simp only [Nat.zero_add]
          have hkl : k < ops.size := by rw [← hll]; exact (List.getElem?_eq_some_iff.1 hk).1
          have hok : ops.toList[k]? = some ops[k] := by simp [hkl]
          have hok' : ops[k]? = some ops[k] := by simp [hkl]
          have hkloud : loud E ops[k].op = true := by
            simp only [loudL, List.getElem?_zipWith, hok] at hk
            have hsk : steps[k]? = some steps[k] := List.getElem?_eq_getElem (by omega)
            rw [hsk] at hk
            simp at hk
            exact hk.1
          rcases Nat.lt_trichotomy k j with hkj | hkj | hkj
          · rw [bef_listed hcl j k hrd (hO.ord k j _ _ hok' ho hkloud hloud hkj)]; simp [hkj]
          · subst hkj; rw [hun]; simp
          · have : listed.getD k false = false := by
              cases hb : listed.getD k false with
              | false => rfl
              | true =>
                have := bef_listed hcl k j (hcl k hb) (hO.ord j k _ _ ho hok' hloud hkloud hkj)
                rw [hun] at this
                simp at this
            rw [this]
            simp
            omega
        rw [hk, hm] at hμ1
        simp at hμ1; subst hμ1
        have hh : heaps[countB (loudL E ops.toList steps) (fun i => listed.getD i false) 0 + (bif (loud E o.op && s.on) then 1 else 0)]? = some μ2 := by
          rw [hk]; simp only [hloud, hson, Bool.and_self, cond_true]; exact hμ2
        rcases hitem with hop | ⟨g, args, m', hop, hc⟩
        · rw [hop] at hrel
          obtain ⟨ι2, w2, hr, hS2, hx2, hl2, hb2⟩ := hrel
          have := hnext ι2 μ2 w2 hh hS2 hx2 hl2 hb2
          rcases hr with hr | ⟨hr, hv⟩
          · rw [hr]; exact this
          · rw [hr]; rw [hv, conc_undef] at this; exact this
        · rw [hop] at hrel
          obtain ⟨hm', hr, hb⟩ := hrel
          subst hm'
          rw [hr]
          refine (hC g args _ _ _ hc ι1 w hS hb).mono ?_
          rintro e' w' ⟨ι2, hx2, hl2, hS2, hend'⟩
          cases e' with
          | returned v' =>
            obtain ⟨rfl, hbv⟩ := hend'
            exact hnext ι2 μ2 w' hh hS2 hx2 hl2 hbv
          | panicked ch => exact hend'.elim
          | outgrown => exact hend'.elim

theorem drawn_ok {callF : CallF} (hC : CallsOk P pr w0 E.ng callF) {ops : Array Oper} {Q : Exit → Act → World → Prop} {ι : Ren} {μ : Hp} {w : World} {fr : Fr} {a : Act} {fr' : Fr} {μ' : Hp}
    (h : drawnA P E callF ops fr μ = some (fr', μ')) (hS : Sim pr w0 E.ng ι μ w) (hF : FrRel ι μ.next fr a) (hG : Goal pr w0 E.ng ι μ Q .normal fr' μ') :
    wpAny P .any ops Q ops.size (Array.replicate ops.size false) a w := by
  unfold drawnA at h
  simp only at h
  cases hopen : openOk E ops (befA ops.toList []) with
  | false => simp [hopen] at h
  | true =>
    rw [hopen, cond_true] at h
    cases hst : stepsA P E callF ops ops.toList fr μ 0 with
    | none => simp [hst] at h
    | some q =>
      obtain ⟨steps, heaps, fr1⟩ := q
      simp only [hst] at h
      cases hq : quietOk P E (befA ops.toList []) (loudOn E ops steps) heaps ops.toList steps 0 with
      | false => simp [hq] at h
      | true =>
        rw [hq, cond_true, Option.map_eq_some_iff] at h
        obtain ⟨m, hlast, hm⟩ := h
        simp only [Prod.mk.injEq] at hm
        obtain ⟨rfl, rfl⟩ := hm
        have hP := steps_pass _ _ _ _ _ _ _ hst
        have hnone : ∀ k, (Array.replicate ops.size false).getD k false = false := fun k => by
          by_cases hk : k < ops.size <;> simp [Array.getD, hk]
        refine drawn_go hE hC (openOk_spec hopen) hF.lim hP hq hlast hG ops.size _ a w (by simp) ?_ ?_ ⟨ι, fr, μ, ?_, hS, Ext.refl _ _, Nat.le_refl _, hF, ?_⟩
        · rw [countB_none _ _ _ fun k => by rw [Nat.zero_add]; exact hnone k]; rfl
        · intro i hi; simp only [hnone] at hi; simp at hi
        · rw [countB_none _ _ _ fun k => by rw [Nat.zero_add]; exact hnone k]; exact hP.hd
        · exact ⟨rfl, rfl, fun i o s t _ _ _ hl => by rw [hnone] at hl; simp at hl, fun _ _ => rfl⟩
end
end Go.Abs
