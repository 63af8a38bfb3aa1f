/-
  The abstract machine's operations are the program's: variables, parts, slices.
-/
import Derived.Test.YtnbhpnnjmfeafaaAmRel
import Derived.Laws.Append
namespace Go.Abs
set_option linter.unusedVariables false
set_option linter.unusedSimpArgs false

structure EnvOk (P : Program) (E : Env) : Prop where
  info : ∀ t i, E.info t = some i → P.info? t = some i
  fn : ∀ f fn, E.fn f = some fn → P.funcs[f]? = some fn ∧ fn.body.isSome = true ∧ (fn.name == "runtime.NumGoroutine") = false

section
variable {P : Program} {E : Env} (hE : EnvOk P E)
include hE
theorem EnvOk.und {t : TypeId} {d : TypeDesc} (h : E.und t = some d) : P.underlying t = some d := by
  unfold Env.und at h
  cases hi : E.info t with
  | none => rw [hi] at h; cases h
  | some i =>
    rw [hi] at h
    have hp := hE.info t i hi
    obtain ⟨desc, str, size, bytes, hasP, al, fal, zero, comp, meth⟩ := i
    unfold Program.underlying
    cases desc with
    | named nm u =>
      simp only [Option.map_eq_some_iff] at h
      obtain ⟨j, hj, rfl⟩ := h
      have hq := hE.info u j hj
      simp [hp, hq]
    | _ => simp at h; subst h; simp [hp]
theorem EnvOk.run_und {t : TypeId} {d : TypeDesc} (h : E.und t = some d) (w : World) : (underlying t).run P w = .ok d w := by
  simp [underlying, hE.und h]
theorem EnvOk.run_size {t : TypeId} {n : Nat} (h : E.size t = some n) (w : World) : (sizeOf t).run P w = .ok n w := by
  simp only [Env.size, Option.map_eq_some_iff] at h
  obtain ⟨i, hi, rfl⟩ := h
  simp [sizeOf, typeInfo, hE.info t i hi]
theorem EnvOk.run_isAgg {t : TypeId} {b : Bool} (h : E.isAgg t = some b) (w : World) : (isAgg t).run P w = .ok b w := by
  simp only [Env.isAgg, Option.map_eq_some_iff] at h
  obtain ⟨d, hd, rfl⟩ := h
  simp only [isAgg, Sem.run_bind, hE.run_und hd, Result.andThen_ok]
  cases d <;> rfl
theorem EnvOk.run_info {t : TypeId} {i : TypeInfo} (h : E.info t = some i) (w : World) : (typeInfo t).run P w = .ok i w := by
  simp [typeInfo, hE.info t i h]
theorem EnvOk.run_zero {t : TypeId} {z : Value} (h : zeroA E t = some z) (w : World) : (zeroValue t).run P w = .ok z w ∧ plain 3 z = true := by
  unfold zeroA at h
  cases hi : E.info t with
  | none => rw [hi] at h; cases h
  | some i =>
    rw [hi] at h
    cases hz : i.zero with
    | none => simp only [hz] at h; cases h
    | some z' =>
      simp only [hz] at h
      cases hp : plain 3 z' with
      | false => simp [hp] at h
      | true =>
        simp [hp] at h
        subst h
        exact ⟨by simp [zeroValue, hE.run_info hi, hz], hp⟩
end

/-- What an operation that answers a value does. -/
def Val (P : Program) (pr : Nat → Prop) (w0 : World) (ng : Nat) (ι : Ren) (μ : Hp) (w : World) (s : Sem Value) (v : Value) (μ' : Hp) : Prop :=
  ∃ ι' w', s.run P w = .ok (conc ι' v) w' ∧ Sim pr w0 ng ι' μ' w' ∧ Ext μ.next ι ι' ∧ μ.next ≤ μ'.next ∧ Bd μ'.next v
def Unt (P : Program) (pr : Nat → Prop) (w0 : World) (ng : Nat) (ι : Ren) (μ : Hp) (w : World) (s : Sem Unit) (μ' : Hp) : Prop :=
  ∃ ι' w', s.run P w = .ok () w' ∧ Sim pr w0 ng ι' μ' w' ∧ Ext μ.next ι ι' ∧ μ.next ≤ μ'.next

section
variable {P : Program} {E : Env} (hE : EnvOk P E) {pr : Nat → Prop} {w0 : World} {ng : Nat} {ι : Ren} {μ : Hp} {w : World} (hS : Sim pr w0 ng ι μ w)

theorem Val.same {s : Sem Value} {v : Value} (hS : Sim pr w0 ng ι μ w) (h : s.run P w = .ok (conc ι v) w) (hb : Bd μ.next v) : Val P pr w0 ng ι μ w s v μ :=
  ⟨ι, w, h, hS, Ext.refl _ _, Nat.le_refl _, hb⟩

include hE
theorem part_ok {t : TypeId} {cs : List Value} {off : Nat} {v : Value} {N : Nat} (h : partA E t cs off = some v) (hb : ∀ x ∈ cs, Bd N x) (w : World) :
    (part t ((cs.map (conc ι)).toArray) off).run P w = .ok (conc ι v) w ∧ Bd N v := by
  unfold partA at h
  cases ha : E.isAgg t with
  | none => simp [ha] at h
  | some b =>
    cases hs : E.size t with
    | none => simp [ha, hs] at h
    | some n =>
      cases b with
      | true =>
        simp [ha, hs] at h
        subst h
        refine ⟨?_, ?_⟩
        · simp only [part, Sem.run_bind, hE.run_isAgg ha, Result.andThen_ok, hE.run_size hs, if_true, Sem.run_pure, conc_agg]
          congr 2
          apply Array.ext'
          simp [List.map_take, List.map_drop]
        · simp only [Bd_agg]
          intro x hx
          exact hb x (List.mem_of_mem_drop (List.mem_of_mem_take (by simpa using hx)))
      | false =>
        simp [ha, hs] at h
        refine ⟨?_, hb v (List.mem_of_getElem? h)⟩
        simp [part, hE.run_isAgg ha, h]

theorem load_ok (hS : Sim pr w0 ng ι μ w) {t : TypeId} {a : Addr} {v : Value} (h : loadA E t a μ = some v) :
    (Instr.loadAt t (.pointer (some (ι.addr a)))).run P w = .ok (conc ι v) w ∧ Bd μ.next v := by
  unfold loadA at h
  obtain ⟨b, o, sp⟩ := a
  cases sp with
  | some _ => simp at h
  | none =>
    simp only at h
    cases hc : μ.cells b with
    | none => simp [hc] at h
    | some vs =>
      cases ha : E.isAgg t with
      | none => simp [hc, ha] at h
      | some bb =>
        cases hs : E.size t with
        | none => cases bb <;> simp [hc, ha, hs] at h
        | some n =>
          cases bb with
          | true =>
            simp only [hc, ha, hs] at h
            cases hl : Nat.beq ((vs.drop o).take n).length n with
            | false => simp only [hl, cond_false] at h; cases h
            | true =>
              simp only [hl, cond_true, Option.some.injEq] at h
              subst h
              have hlen := beq_yes hl
              have hr := run_loadCells' (P := P) (w := w) (ι.loc b).1 ((ι.loc b).2 + o) (((vs.drop o).take n).map (conc ι)) (fun j x hx => by
                simp only [List.getElem?_map, Option.map_eq_some_iff] at hx
                obtain ⟨u, hu, rfl⟩ := hx
                rw [List.getElem?_take] at hu
                split at hu
                · rw [List.getElem?_drop] at hu
                  rw [Nat.add_assoc]
                  exact (hS.cell hc hu).1
                · cases hu)
              rw [List.length_map, hlen] at hr
              refine ⟨?_, ?_⟩
              · simp only [Instr.loadAt, Instr.sureAddr, pure_bind, loadVar, Sem.run_bind, hE.run_isAgg ha, Result.andThen_ok, if_true, hE.run_size hs, Ren.addr, hr, Sem.run_pure, conc_agg]
                simp
              · simp only [Bd_agg]
                intro x hx
                obtain ⟨i, hi⟩ := List.getElem?_of_mem (List.mem_of_mem_drop (List.mem_of_mem_take (by simpa using hx)))
                exact (hS.cell hc hi).2
          | false =>
            simp [hc, ha, hs] at h
            have := hS.cell hc h
            refine ⟨?_, this.2⟩
            simp [Instr.loadAt, Instr.sureAddr, loadVar, hE.run_isAgg ha, Ren.addr, this.1]
omit hE

theorem storeCells_ok (hS : Sim pr w0 ng ι μ w) {a : Addr} {xs : List Value} {μ' : Hp} (h : storeCellsA a xs μ = some μ') (hb : ∀ x ∈ xs, Bd μ.next x) :
    ∃ w', (storeCells (ι.addr a) (xs.map (conc ι))).run P w = .ok () w' ∧ Sim pr w0 ng ι μ' w' ∧ μ'.next = μ.next := by
  unfold storeCellsA at h
  obtain ⟨b, o, sp⟩ := a
  cases sp with
  | some _ => simp at h
  | none =>
    cases hone : xs.all one with
    | false => simp [hone] at h
    | true =>
      simp only [hone] at h
      cases hg : μ.get b with
      | none => simp [hg] at h
      | some ob =>
        cases ob with
        | cells vs es =>
          simp only [hg, Option.map_eq_some_iff] at h
          obtain ⟨vs', hset, rfl⟩ := h
          obtain ⟨h1, h2, h3⟩ := setAt_spec _ _ _ _ hset
          have hobj := hS.obj b _ hg
          obtain ⟨w', hr, hn, ho, hso, hf, hblk, hsz, e1, e2, e3, e4⟩ := run_storeCells (P := P) (ι.loc b).1 ((ι.loc b).2 + o) (xs.map (conc ι)) 0 w (by
              intro j hj
              rw [List.length_map] at hj
              have hx : xs ≠ [] := by intro e; subst e; simp at hj
              have := h2 hx
              have := hobj.2 (o + j) (by omega)
              rw [show (ι.loc b).2 + o + 0 + j = (ι.loc b).2 + (o + j) by omega]
              exact this) (by
              intro x hx
              obtain ⟨y, hy, rfl⟩ := List.mem_map.1 hx
              exact conc_one ι y (List.all_eq_true.1 hone y hy))
          refine ⟨w', by simpa [Ren.addr] using hr, ?_, rfl⟩
          refine hS.turn hg rfl e1 e2 e3 hsz.symm hblk ⟨?_, ?_⟩
          · intro i v hv
            rw [h3 i] at hv
            split at hv
            · rename_i hin
              have hv' : (xs.map (conc ι))[i - o]? = some (conc ι v) := by simp [hv]
              have := hn _ _ hv'
              rw [show (ι.loc b).2 + o + 0 + (i - o) = (ι.loc b).2 + i by omega] at this
              exact ⟨this, hb v (List.mem_of_getElem? hv)⟩
            · rename_i hout
              rw [ho _ (by simp only [List.length_map]; omega)]
              exact hobj.1 i v hv
          · intro i hi
            rw [h1] at hi
            rw [hso, hf]
            exact hobj.2 i hi
        | _ => simp [hg] at h
include hE
theorem store_ok (hS : Sim pr w0 ng ι μ w) {t : TypeId} {a : Addr} {v : Value} {μ' : Hp} (h : storeA E t a v μ = some μ') (hb : Bd μ.next v) :
    Unt P pr w0 ng ι μ w (Instr.storeAt t (.pointer (some (ι.addr a))) (conc ι v)) μ' := by
  unfold storeA at h
  cases hs : E.size t with
  | none => simp [hs] at h
  | some n =>
    simp only [hs] at h
    cases hl : Nat.beq v.cells.size n with
    | false => simp [hl] at h
    | true =>
      simp only [hl, cond_true] at h
      obtain ⟨w', hr, hS', hnx⟩ := storeCells_ok (P := P) hS h (fun x hx => Bd_cells hb x (by simpa using hx))
      refine ⟨ι, w', ?_, hS', Ext.refl _ _, by rw [hnx]; exact Nat.le_refl _⟩
      have hlen := beq_yes hl
      simp only [Instr.storeAt, Instr.sureAddr, pure_bind, storeVar, Sem.run_bind, hE.run_size hs, Result.andThen_ok, conc_cells, Array.size_map, hlen, ne_eq, not_true_eq_false, if_false, Sem.run_pure, Array.toList_map]
      exact hr
omit hE

/-- A new row. -/
theorem newCells_ok (hS : Sim pr w0 ng ι μ w) {xs : List Value} {es : Nat} {n : Nat} {μ' : Hp} (h : μ.new (.cells xs es) = some (n, μ')) (hb : ∀ x ∈ xs, Bd μ.next x) (elem : TypeId) (more : List Value) (e : Nat)
    (hmore : e * es ≤ more.length) :
    Sim pr w0 ng (ι.upd n (w.heap.size, 0) e) μ' (w.alloc (.cells ((xs.map (conc ι)).toArray ++ more.toArray) elem)) ∧ Ext μ.next ι (ι.upd n (w.heap.size, 0) e) ∧ μ'.next = μ.next + 1 ∧ n = μ.next := by
  have hn := (Hp.new_eq h).1
  subst hn
  have hx := Ren.upd_ext ι μ.next (w.heap.size, 0) e
  refine hS.alloc h _ e ⟨?_, ?_⟩
  · intro i v hv
    have hbv := hb v (List.mem_of_getElem? hv)
    simp only [Ren.upd, if_true, Nat.zero_add, World.cell?_alloc_new]
    refine ⟨?_, Bd.mono (by rw [(Hp.new_eq h).2.2]; simp only; omega) v hbv⟩
    rw [← Ren.upd, conc_ext hx v hbv]
    have hi : i < xs.length := (List.getElem?_eq_some_iff.1 hv).1
    have he := (List.getElem?_eq_some_iff.1 hv).2
    simp [List.getElem?_append, hi, he]
  · intro i hi
    simp only [Ren.upd, if_true, Nat.zero_add, World.cell?_alloc_new, World.frozen?_alloc_new, and_true] at hi ⊢
    have : i < ((xs.map (conc ι)).toArray ++ more.toArray).size := by simp; omega
    rw [Array.getElem?_eq_getElem this]; rfl
theorem newVar_ok (hS : Sim pr w0 ng ι μ w) {v r : Value} {μ' : Hp} (h : newVarA v μ = some (r, μ')) (hb : Bd μ.next v) (elem : TypeId) :
    Val P pr w0 ng ι μ w (do pure (.pointer (some (← newVar elem (conc ι v))))) r μ' := by
  unfold newVarA at h
  cases hn : μ.new (.cells v.cells.toList 0) with
  | none => simp [hn] at h
  | some p =>
    obtain ⟨n, μ1⟩ := p
    simp [hn] at h
    obtain ⟨rfl, rfl⟩ := h
    obtain ⟨hS', hx, hnx, rfl⟩ := newCells_ok hS hn (fun x hx => Bd_cells hb x (by simpa using hx)) elem [] 0 (by simp)
    refine ⟨_, _, ?_, hS', hx, by omega, by simp [hnx]⟩
    simp only [newVar, newRow, Sem.run_bind, run_newObj, Result.andThen_ok, Sem.run_pure, conc_cells, World.alloc_eq, conc_ptr, Ren.addr, Ren.upd, if_true, Nat.zero_add]
    congr 3
    simp only [Array.append_empty]
    apply Array.ext'
    simp

theorem zipIdx_fold (off : Nat) : ∀ (xs : List Value) (k : Nat) (arr : Array Value) (vs : List Value), arr = vs.toArray → off + k + xs.length ≤ vs.length →
    ((xs.zipIdx k).foldl (fun cs (p : Value × Nat) => cs.setIfInBounds (off + p.2) p.1) arr).size = vs.length ∧
    ∀ i, ((xs.zipIdx k).foldl (fun cs (p : Value × Nat) => cs.setIfInBounds (off + p.2) p.1) arr)[i]? = if off + k ≤ i ∧ i < off + k + xs.length then xs[i - (off + k)]? else vs[i]? := by
  intro xs
  induction xs with
  | nil =>
    intro k arr vs ha hl
    subst ha
    refine ⟨by simp, fun i => ?_⟩
    rw [if_neg (by rintro ⟨h1, h2⟩; simp at h2; omega)]
    simp
  | cons x xs ih =>
    intro k arr vs ha hl
    subst ha
    simp only [List.length_cons] at hl
    simp only [List.zipIdx_cons, List.foldl_cons]
    obtain ⟨h1, h2⟩ := ih (k + 1) (vs.toArray.setIfInBounds (off + k) x) (vs.set (off + k) x) (by simp) (by simp; omega)
    refine ⟨by rw [h1]; simp, fun i => ?_⟩
    rw [h2 i]
    simp only [List.length_cons]
    by_cases hi : i = off + k
    · subst hi
      rw [if_neg (by omega), if_pos (by omega)]
      simp [List.getElem?_set, show off + k < vs.length by omega]
    · by_cases hin : off + (k + 1) ≤ i ∧ i < off + (k + 1) + xs.length
      · rw [if_pos hin, if_pos (by omega)]
        rw [show i - (off + k) = (i - (off + (k + 1))) + 1 by omega]
        simp
      · rw [if_neg hin, if_neg (by omega)]
        rw [List.getElem?_set_ne (by omega)]

theorem fill_ok {place : Nat → Option (Nat × Nat)} : ∀ (parts : List (Nat × Value)) (cells cs : List Value) (N : Nat), fillA place cells parts = some cs → (∀ x ∈ cells, Bd N x) → (∀ p ∈ parts, Bd N p.2) →
    Instr.fill place (cells.map (conc ι)).toArray (parts.map fun p => (p.1, conc ι p.2)) = some (cs.map (conc ι)).toArray ∧ ∀ x ∈ cs, Bd N x
  | [], cells, cs, N, h, hb, _ => by simp [fillA] at h; subst h; exact ⟨rfl, hb⟩
  | (i, v) :: rest, cells, cs, N, h, hb, hp => by
    simp only [fillA] at h
    cases hpl : place i with
    | none => simp [hpl] at h
    | some q =>
      obtain ⟨off, size⟩ := q
      simp only [hpl] at h
      cases hsz : (Nat.beq v.cells.size size && Nat.ble (off + v.cells.size) cells.length) with
      | false => simp [hsz] at h
      | true =>
        simp only [hsz, cond_true] at h
        simp only [Bool.and_eq_true] at hsz
        have hs1 := beq_yes hsz.1
        have hs2 := Nat.le_of_ble_eq_true hsz.2
        cases hset : setAt cells off v.cells.toList with
        | none => simp [hset] at h
        | some cells' =>
          simp only [hset] at h
          obtain ⟨g1, g2, g3⟩ := setAt_spec _ _ _ _ hset
          have hv := hp (i, v) (by simp)
          have hb' : ∀ x ∈ cells', Bd N x := by
            intro x hx
            obtain ⟨j, hj⟩ := List.getElem?_of_mem hx
            rw [g3 j] at hj
            split at hj
            · exact Bd_cells hv x (by have := List.mem_of_getElem? hj; simpa using this)
            · exact hb x (List.mem_of_getElem? hj)
          obtain ⟨k1, k2⟩ := fill_ok rest cells' cs N h hb' (fun p hq => hp p (by simp [hq]))
          refine ⟨?_, k2⟩
          simp only [List.map_cons, Instr.fill, hpl, conc_cells, Array.size_map, List.size_toArray, List.length_map]
          rw [if_neg (by simp [hs1]; omega)]
          rw [← k1]
          congr 1
          rw [← Array.foldl_toList]
          have := zipIdx_fold off (v.cells.toList.map (conc ι)) 0 (cells.map (conc ι)).toArray (cells.map (conc ι)) rfl (by simp; omega)
          apply Array.ext_getElem?
          intro j
          have e : ((v.cells.map (conc ι)).zipIdx.toList) = (v.cells.toList.map (conc ι)).zipIdx 0 := by simp [Array.toList_zipIdx]
          rw [e, this.2 j]
          simp only [Nat.add_zero, List.length_map, List.getElem?_map, List.getElem?_toArray, g3 j]
          split <;> simp
end
end Go.Abs
