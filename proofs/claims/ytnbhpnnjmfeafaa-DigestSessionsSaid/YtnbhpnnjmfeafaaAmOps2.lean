/-
  The abstract machine's operations are the program's: what is built, slices, conversions, append and copy.
-/
import Derived.Test.YtnbhpnnjmfeafaaAmOps
import Derived.Laws.BytesArg
namespace Go.Abs
set_option linter.unusedVariables false
set_option linter.unusedSectionVars false
set_option linter.unusedSimpArgs false

section
variable {P : Program} {E : Env} (hE : EnvOk P E) {pr : Nat → Prop} {w0 : World} {ng : Nat} {ι : Ren} {μ : Hp} {w : World}

theorem mapM_run {α β : Type} (f : α → Sem β) (g : α → β) : ∀ (l : List α) (w : World), (∀ x ∈ l, ∀ w, (f x).run P w = .ok (g x) w) → (l.mapM f).run P w = .ok (l.map g) w
  | [], w, _ => by simp
  | x :: l, w, h => by
    simp only [List.mapM_cons, Sem.run_bind, h x (by simp), Result.andThen_ok, mapM_run f g l w (fun y hy => h y (by simp [hy])), Sem.run_pure, List.map_cons]
theorem mapM_array_run {α β : Type} (f : α → Sem β) (g : α → β) (l : Array α) (w : World) (h : ∀ x ∈ l, ∀ w, (f x).run P w = .ok (g x) w) : (l.mapM f).run P w = .ok (l.map g) w := by
  rw [Array.mapM_eq_mapM_toList]
  simp only [Sem.run_map, mapM_run f g l.toList w (fun x hx => h x (by simpa using hx)), Result.andThen_ok]
  congr 1
  apply Array.ext'
  simp

include hE
theorem zero_conc {t : TypeId} {z : Value} (h : zeroA E t = some z) (ι : Ren) (N : Nat) : (z.cells.toList.map (conc ι)).toArray = z.cells ∧ ∀ x ∈ z.cells, Bd N x := by
  have hp := (hE.run_zero h default).2
  have := conc_plain ι N 3 z hp
  refine ⟨?_, Bd_cells this.2⟩
  have e : z.cells.map (conc ι) = z.cells := by rw [← conc_cells, this.1]
  rw [← List.map_toArray]
  exact e

theorem build_ok {t : TypeId} {parts : List (Nat × Value)} {v : Value} {N : Nat} (h : buildA E t parts = some v) (hp : ∀ p ∈ parts, Bd N p.2) (w : World) :
    (Instr.build t (parts.map fun p => (p.1, conc ι p.2)).toArray).run P w = .ok (conc ι v) w ∧ Bd N v := by
  unfold buildA at h
  cases hz : zeroA E t with
  | none => simp [hz] at h
  | some z =>
    cases hu : E.und t with
    | none => simp [hz, hu] at h
    | some d =>
      obtain ⟨hz1, hz2⟩ := zero_conc hE hz ι N
      have hrz := (hE.run_zero hz w).1
      cases d with
      | struct fs =>
        simp only [hz, hu] at h
        cases hall : (fs.toList.all fun f => (E.size f.type).isSome) with
        | false => simp [hall] at h
        | true =>
          simp only [hall, Bool.not_true, cond_false, Option.map_eq_some_iff] at h
          obtain ⟨cs, hf, rfl⟩ := h
          obtain ⟨k1, k2⟩ := fill_ok (ι := ι) parts z.cells.toList cs N hf (fun x hx => hz2 x (by simpa using hx)) hp
          have hsz : ∀ f ∈ fs, ∃ s, E.size f.type = some s := fun f hf => Option.isSome_iff_exists.1 (List.all_eq_true.1 hall f (by simpa using hf))
          have hm := mapM_array_run (P := P) (fun f : Field => do pure (f.offset, ← sizeOf f.type)) (fun f => (f.offset, (E.size f.type).getD 0)) fs w (fun f hf w => by
            obtain ⟨s, hs⟩ := hsz f hf
            simp [hE.run_size hs, hs])
          refine ⟨?_, ?_⟩
          · simp only [Instr.build, Sem.run_bind, hrz, Result.andThen_ok, hE.run_und hu, hm]
            have hfill : Instr.fill (fun x => (Array.map (fun f : Field => (f.offset, (E.size f.type).getD 0)) fs)[x]?) z.cells (parts.map fun p => (p.1, conc ι p.2)) = some (cs.map (conc ι)).toArray := by
              rw [← k1]
              congr 1
              · funext i
                rw [Array.getElem?_map]
                cases hi : fs[i]? with
                | none => rfl
                | some f =>
                  obtain ⟨s, hs⟩ := hsz f (Array.mem_of_getElem? hi)
                  simp [hs]
              · exact hz1.symm
            simp only [hfill, Sem.run_pure, conc_agg]
            congr 2
            apply Array.ext'
            simp
          · simp only [Bd_agg]; intro x hx; exact k2 x (by simpa using hx)
      | array n e =>
        simp only [hz, hu] at h
        cases hs : E.size e with
        | none => simp [hs] at h
        | some s =>
          simp only [hs, Option.map_eq_some_iff] at h
          obtain ⟨cs, hf, rfl⟩ := h
          obtain ⟨k1, k2⟩ := fill_ok (ι := ι) parts z.cells.toList cs N hf (fun x hx => hz2 x (by simpa using hx)) hp
          refine ⟨?_, ?_⟩
          · simp only [Instr.build, Sem.run_bind, hrz, Result.andThen_ok, hE.run_und hu, hE.run_size hs]
            have hfill : Instr.fill (fun i => some (i * s, s)) z.cells (parts.map fun p => (p.1, conc ι p.2)) = some (cs.map (conc ι)).toArray := by
              rw [← k1]
              congr 1
              exact hz1.symm
            simp only [hfill, Sem.run_pure, conc_agg]
            congr 2
            apply Array.ext'
            simp
          · simp only [Bd_agg]; intro x hx; exact k2 x (by simpa using hx)
      | _ => simp [hz, hu] at h

omit hE
theorem range_nil (f : Nat → Value) : Array.map f (Array.range 0) = #[] := by
  rw [show Array.range 0 = #[] from rfl]
  simp
theorem copies_length (zs : List Value) : ∀ n, (copies zs n).length = n * zs.length
  | 0 => by simp [copies]
  | n + 1 => by simp [copies, copies_length zs n, Nat.succ_mul, Nat.add_comm]
theorem copies_get (zs : List Value) : ∀ (n i : Nat), i < n * zs.length → (copies zs n)[i]? = zs[i % zs.length]?
  | 0, i, h => by simp at h
  | n + 1, i, h => by
    rw [Nat.succ_mul] at h
    simp only [copies, List.getElem?_append]
    split
    · rename_i hi; rw [Nat.mod_eq_of_lt hi]
    · rename_i hi
      rw [copies_get zs n (i - zs.length) (by omega)]
      congr 1
      exact (Nat.mod_eq_sub_mod (by omega)).symm
theorem copies_mem {zs : List Value} {x : Value} : ∀ {n : Nat}, x ∈ copies zs n → x ∈ zs
  | 0, h => by simp [copies] at h
  | n + 1, h => by
    simp only [copies, List.mem_append] at h
    exact h.elim id copies_mem
theorem copies_array (zs : Array Value) (n : Nat) : (Array.range (n * zs.size)).map (fun i => zs[i % zs.size]!) = (copies zs.toList n).toArray := by
  apply Array.ext'
  apply List.ext_getElem?
  intro i
  have hl := copies_length zs.toList n
  by_cases hi : i < n * zs.size
  · have hz : 0 < zs.size := by
      rcases Nat.eq_zero_or_pos zs.size with h | h
      · rw [h] at hi; simp at hi
      · exact h
    have hm : i % zs.size < zs.size := Nat.mod_lt _ hz
    have h1 := copies_get zs.toList n i (by simpa using hi)
    simp only [Array.toList_map, Array.toList_range, List.getElem?_map, List.getElem?_range hi, Option.map_some]
    rw [h1]
    simp [hm]
  · rw [List.getElem?_eq_none (by simpa using hi), List.getElem?_eq_none (by rw [hl]; simpa using hi)]
theorem conc_copies (ι : Ren) (zs : List Value) : ∀ n, (copies zs n).map (conc ι) = copies (zs.map (conc ι)) n
  | 0 => rfl
  | n + 1 => by simp [copies, conc_copies ι zs n]

include hE
theorem row_ok {e : TypeId} {n : Nat} {row : List Value} (h : rowOf E e n = some row) (ι : Ren) (N : Nat) : ∃ z s, zeroA E e = some z ∧ E.size e = some s ∧ z.cells.size = s ∧
    (Array.range (n * s)).map (fun i => z.cells[i % z.cells.size]!) = (row.map (conc ι)).toArray ∧ (∀ x ∈ row, Bd N x) ∧ row.length = n * s := by
  unfold rowOf at h
  cases hz : zeroA E e with
  | none => simp [hz] at h
  | some z =>
    cases hs : E.size e with
    | none => simp [hz, hs] at h
    | some s =>
      simp only [hz, hs] at h
      cases hb : Nat.beq z.cells.size s with
      | false => simp [hb] at h
      | true =>
        simp only [hb, cond_true, Option.some.injEq] at h
        subst h
        have hsz := beq_yes hb
        obtain ⟨h1, h2⟩ := zero_conc hE hz ι N
        refine ⟨z, s, rfl, rfl, hsz, ?_, fun x hx => h2 x (by simpa using copies_mem hx), by rw [copies_length]; simp [hsz]⟩
        rw [← hsz, copies_array, conc_copies]
        have : z.cells.toList.map (conc ι) = z.cells.toList := by
          have := congrArg Array.toList h1
          simpa using this
        rw [this]

theorem buildSlice_ok (hS : Sim pr w0 ng ι μ w) {t : TypeId} {len : Nat} {parts : List (Nat × Value)} {v : Value} {μ' : Hp} (h : buildSliceA E t len parts μ = some (v, μ')) (hp : ∀ p ∈ parts, Bd μ.next p.2) :
    Val P pr w0 ng ι μ w (Instr.buildSlice t len (parts.map fun p => (p.1, conc ι p.2)).toArray) v μ' := by
  unfold buildSliceA at h
  cases hu : E.und t with
  | none => simp [hu] at h
  | some d =>
    cases d with
    | slice e =>
      simp only [hu] at h
      cases hs : E.size e with
      | none => simp [hs] at h
      | some s =>
        cases hr : rowOf E e len with
        | none => simp [hs, hr] at h
        | some row =>
          simp only [hs, hr] at h
          cases hb : (Nat.ble (len * s) 16777216 && Nat.blt 0 s) with
          | false => simp [hb] at h
          | true =>
            simp only [hb, cond_true] at h
            simp only [Bool.and_eq_true, Nat.blt_eq] at hb
            have hb1 := Nat.le_of_ble_eq_true hb.1
            cases hf : fillA (fun i => some (i * s, s)) row parts with
            | none => simp [hf] at h
            | some cs =>
              simp only [hf] at h
              cases hn : μ.new (.cells cs 0) with
              | none => simp [hn] at h
              | some q =>
                obtain ⟨n, μ1⟩ := q
                simp only [hn, Option.some.injEq, Prod.mk.injEq] at h
                obtain ⟨rfl, rfl⟩ := h
                obtain ⟨z, s', hz, hs', hzs, hrow, hrb, hrl⟩ := row_ok hE hr ι μ.next
                rw [hs] at hs'; cases hs'
                obtain ⟨k1, k2⟩ := fill_ok (ι := ι) parts row cs μ.next hf hrb hp
                obtain ⟨hS', hx, hnx, rfl⟩ := newCells_ok hS hn k2 e [] 0 (by simp)
                refine ⟨_, _, ?_, hS', hx, by omega, by simp [hnx]⟩
                simp only [Instr.buildSlice, Sem.run_bind, hE.run_und hu, Result.andThen_ok, hE.run_size hs]
                rw [if_neg (by omega)]
                have hc : capOf (2 * len) = len ∧ capOpen (2 * len) = false := by
                  unfold capOf capOpen
                  exact ⟨by omega, beq_no (by omega)⟩
                simp only [Sem.run_pure, Result.andThen_ok, Sem.run_bind, newRow, run_newObj, World.alloc_eq, conc_slice, Ren.addr, Ren.cap, Ren.upd, if_true, Nat.zero_add, Sem.run_ite]
                by_cases h0 : len * s = 0
                · have hnil : row = [] := List.eq_nil_of_length_eq_zero (by rw [hrl, h0])
                  subst hnil
                  have k1' : ∀ f : Nat → Value, Instr.fill (fun i => some (i * s, s)) (Array.map f (Array.range (len * s))) (parts.map fun p => (p.1, conc ι p.2)) = some (cs.map (conc ι)).toArray := by
                    intro f
                    rw [← k1, h0, range_nil]
                    rfl
                  simp [h0, hc.1, hc.2] at k1' ⊢
                  simp [k1']
                · simp only [if_neg h0, (hE.run_zero hz _).1, Result.andThen_ok, hrow, k1]
                  simp [hc.1, hc.2]
    | _ => simp [hu] at h

theorem natOf_ok {v : Value} {b k : Nat} (h : natOf v b = some k) : ∃ kk i, v = .int kk i ∧ 0 ≤ i ∧ i ≤ b ∧ k = i.toNat := by
  unfold natOf at h
  split at h
  · rename_i kk i
    cases hc : (decide (0 ≤ i) && decide (i ≤ (b : Int))) with
    | false => simp [hc] at h
    | true =>
      simp only [hc, cond_true, Option.some.injEq] at h
      simp only [Bool.and_eq_true, decide_eq_true_eq] at hc
      exact ⟨kk, i, rfl, hc.1, hc.2, h.symm⟩
  · cases h
theorem wrap64_small {n : Int} (h0 : 0 ≤ n) (h : n ≤ 9223372036854775807) : IntKind.i64.wrap n = n := by
  have : (2 : Int) ^ IntKind.i64.bits = 18446744073709551616 := by decide
  have h2 : (2 : Int) ^ (IntKind.i64.bits - 1) = 9223372036854775808 := by decide
  unfold IntKind.wrap
  rw [this, h2]
  have : n % 18446744073709551616 = n := Int.emod_eq_of_lt h0 (by omega)
  simp only [this]
  have hs : IntKind.i64.signed = true := rfl
  simp only [hs, Bool.true_and]
  rw [if_neg (by simp; omega)]

theorem makeSlice_ok (hS : Sim pr w0 ng ι μ w) {t : TypeId} {l c : Value} {v : Value} {μ' : Hp} (h : makeSliceA E t l c μ = some (v, μ')) :
    Val P pr w0 ng ι μ w (Instr.makeSlice t (conc ι l) (conc ι c)) v μ' := by
  unfold makeSliceA at h
  cases hu : E.und t with
  | none => simp [hu] at h
  | some d =>
    cases hc : natOf c 9223372036854775807 with
    | none => simp [hu, hc] at h
    | some cn =>
      cases hl : natOf l 9223372036854775807 with
      | none => simp [hu, hc, hl] at h
      | some ln =>
        cases d with
        | slice e =>
          simp only [hu, hc, hl] at h
          cases hi : E.info e with
          | none => simp [hi] at h
          | some i =>
            simp only [hi] at h
            cases hb : (Nat.ble ln cn && Nat.ble (i.bytes * cn) 281474976710656) with
            | false => simp [hb] at h
            | true =>
              simp only [hb, cond_true] at h
              simp only [Bool.and_eq_true] at hb
              have hb1 := Nat.le_of_ble_eq_true hb.1
              have hb2 := Nat.le_of_ble_eq_true hb.2
              cases hr : rowOf E e cn with
              | none => simp [hr] at h
              | some row =>
                simp only [hr] at h
                cases hn : μ.new (.cells row 0) with
                | none => simp [hn] at h
                | some q =>
                  obtain ⟨n, μ1⟩ := q
                  simp only [hn, Option.some.injEq, Prod.mk.injEq] at h
                  obtain ⟨rfl, rfl⟩ := h
                  obtain ⟨z, s, hz, hs, hzs, hrow, hrb, hrl⟩ := row_ok hE hr ι μ.next
                  obtain ⟨kl, il, rfl, hl0, hl1, rfl⟩ := natOf_ok (P := P) (E := E) hE hl
                  obtain ⟨kc, ic, rfl, hc0, hc1, rfl⟩ := natOf_ok (P := P) (E := E) hE hc
                  obtain ⟨hS', hx, hnx, rfl⟩ := newCells_ok hS hn hrb e [] 0 (by simp)
                  refine ⟨_, _, ?_, hS', hx, by omega, by simp [hnx]⟩
                  have hwl := wrap64_small (P := P) (E := E) hE hl0 hl1
                  have hwc := wrap64_small (P := P) (E := E) hE hc0 hc1
                  have hic : ((ic.toNat : Nat) : Int) = ic := Int.toNat_of_nonneg hc0
                  have hbb : ¬ ((i.bytes : Int) * ic > 281474976710656) := by
                    have : ((i.bytes * ic.toNat : Nat) : Int) ≤ ((281474976710656 : Nat) : Int) := Int.ofNat_le.2 hb2
                    rw [Int.natCast_mul, hic] at this
                    omega
                  have hle : il ≤ ic := by omega
                  simp only [Instr.makeSlice, conc_int, asInt, asIntOf, Sem.run_bind, hE.run_und hu, Result.andThen_ok, Sem.run_pure, hE.run_info hi, hwl, hwc]
                  have hcp : capOf (2 * ic.toNat) = ic.toNat ∧ capOpen (2 * ic.toNat) = false := by
                    unfold capOf capOpen
                    exact ⟨by omega, beq_no (by omega)⟩
                  have hno : ((decide (ic < 0) || decide ((i.bytes : Int) * ic > 2 ^ 48)) || decide (il < 0) || decide (il > ic)) = false := by
                    have hbb' : ¬ ((i.bytes : Int) * ic > 2 ^ 48) := by
                      have e : (2 : Int) ^ 48 = 281474976710656 := by decide
                      rw [e]; exact hbb
                    have h1 : ¬ (ic < 0) := by omega
                    have h2 : ¬ (il < 0) := by omega
                    have h3 : ¬ (il > ic) := by omega
                    rw [decide_eq_false h1, decide_eq_false h2, decide_eq_false h3, decide_eq_false hbb']
                    rfl
                  simp only [hno, Bool.false_eq_true, if_false, Sem.run_pure, Result.andThen_ok, run_askRoom, hE.run_size hs, newRow, Sem.run_bind, run_newObj, World.alloc_eq, conc_slice, Ren.addr, Ren.cap, Ren.upd, if_true, Nat.zero_add, Sem.run_ite]
                  by_cases h0 : ic.toNat * s = 0
                  · have hnil : row = [] := List.eq_nil_of_length_eq_zero (by rw [hrl, h0])
                    subst hnil
                    simp [h0, hcp.1, hcp.2, range_nil]
                  · simp only [if_neg h0, (hE.run_zero hz _).1, Result.andThen_ok, hrow]
                    simp [hcp.1, hcp.2]
        | _ => simp [hu, hc, hl] at h
end
end Go.Abs
