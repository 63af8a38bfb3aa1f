/-
  The abstract machine's operations are the program's: append and copy, len and cap, maps, ranges, assertions.
-/
import Derived.Test.YtnbhpnnjmfeafaaAmOps6
namespace Go.Abs
set_option linter.unusedVariables false
set_option linter.unusedSimpArgs false
set_option linter.unusedSectionVars false

section
variable {P : Program} {E : Env} {pr : Nat → Prop} {w0 : World} {ng : Nat} {ι : Ren} {μ : Hp} {w : World} (hE : EnvOk P E)
include hE

theorem append_ok (hS : Sim pr w0 ng ι μ w) {ts : List TypeId} {args : List Value} {ty : TypeId} {v : Value} {μ' : Hp} (h : appendA E ts args μ = some (v, μ')) (hb : ∀ x ∈ args, Bd μ.next x) :
    Val P pr w0 ng ι μ w (Builtin.append_ ⟨ts⟩ ty ⟨args.map (conc ι)⟩) v μ' := by
  unfold appendA at h
  split at h
  · rename_i t u base len cap x
    have hbx := hb x (by simp)
    have hbs := hb (.slice base len cap) (by simp)
    split at h
    · rename_i e ud hu1 hu2
      cases hii : isInt ud with
      | true => simp [hii] at h
      | false =>
      simp only [hii, cond_false] at h
      have hni := hii
      unfold appendB at h
      cases hs : E.size e with
      | none => simp [hs] at h
      | some s =>
        cases hn : lenA x with
        | none => simp [hs, hn] at h
        | some n =>
          simp only [hs, hn] at h
          cases hf : firstA s n x μ with
          | none => simp [hf] at h
          | some new =>
            simp only [hf] at h
            have hlen := len_ok (P := P) (ι := ι) hn w
            have hx := first_ok (P := P) (w' := w) hS hf hbx (fun _ => rfl)
            simp only [List.map_cons, List.map_nil]
            cases base with
            | none =>
              simp only at h
              cases h0 : (Nat.beq len 0 && Nat.beq cap 0) with
              | false => simp [h0] at h
              | true =>
                simp only [h0, cond_true] at h
                simp only [Bool.and_eq_true] at h0
                obtain rfl := beq_yes h0.1
                obtain rfl := beq_yes h0.2
                cases hn0 : Nat.beq n 0 with
                | true =>
                  simp [hn0] at h
                  obtain ⟨rfl, rfl⟩ := h
                  obtain rfl := beq_yes hn0
                  exact Val.same hS (by simpa using run_append_nil0 hE (ty := ty) hu1 hu2 hni hs (conc ι x) _ hlen hx.1) (by simp)
                | false =>
                  simp only [hn0, cond_false] at h
                  have := Nat.ne_of_beq_eq_false hn0
                  exact grow_ok hE hS hu1 hu2 hni hs hn hf hbx (base := none) ⟨rfl, rfl, rfl, by omega⟩ h
            | some a =>
              simp only at h
              cases hle : Nat.ble (len + n) (capOf cap) with
              | true =>
                simp only [hle] at h
                have hle' := Nat.le_of_ble_eq_true hle
                cases hn0 : Nat.beq n 0 with
                | true =>
                  simp [hn0] at h
                  obtain ⟨rfl, rfl⟩ := h
                  obtain rfl := beq_yes hn0
                  have hnil := first_zero hf
                  subst hnil
                  refine Val.same hS ?_ hbs
                  have := run_append_in hE (ty := ty) (w := w) (w' := w) hu1 hu2 hni hs (ι.addr a) len (ι.cap a.block cap) 0 (conc ι x) _ hlen hx.1 (by simp only [Ren.cap]; omega) (by simp [storeCells])
                  simpa using this
                | false =>
                  simp only [hn0, cond_false] at h
                  cases hst : storeCellsA (a.add (len * s)) new μ with
                  | none => simp [hst] at h
                  | some μ1 =>
                    simp only [hst, Option.some.injEq, Prod.mk.injEq] at h
                    obtain ⟨rfl, rfl⟩ := h
                    obtain ⟨w', hr, hS', hnx⟩ := storeCells_ok (P := P) hS hst hx.2
                    rw [addr_add_conc] at hr
                    refine ⟨ι, w', ?_, hS', Ext.refl _ _, by rw [hnx]; exact Nat.le_refl _, by rw [hnx]; simpa using hbs⟩
                    have := run_append_in hE (ty := ty) (w := w) (w' := w') hu1 hu2 hni hs (ι.addr a) len (ι.cap a.block cap) n (conc ι x) _ hlen hx.1 (by simp only [Ren.cap]; omega) hr
                    simpa using this
              | false =>
                simp only [hle] at h
                cases hfo : firstA s len (.slice (some a) len cap) μ with
                | none => simp [hfo] at h
                | some old =>
                  simp only [hfo] at h
                  have hlt : capOf cap < len + n := by
                    rcases Nat.lt_or_ge (capOf cap) (len + n) with h' | h'
                    · exact h'
                    · rw [Nat.ble_eq_true_of_le h'] at hle; cases hle
                  exact grow_ok hE hS hu1 hu2 hni hs hn hf hbx (base := some a) ⟨hfo, by simpa using hbs, hlt⟩ h
    · cases h
  · cases h

theorem copy_ok (hS : Sim pr w0 ng ι μ w) {ts : List TypeId} {args : List Value} {ty : TypeId} {v : Value} {μ' : Hp} (h : copyA E ts args μ = some (v, μ')) (hb : ∀ x ∈ args, Bd μ.next x) :
    Val P pr w0 ng ι μ w (Builtin.copy_ ⟨ts⟩ ty ⟨args.map (conc ι)⟩) v μ' := by
  unfold copyA at h
  split at h
  · rename_i t u base len cap x
    have hbx := hb x (by simp)
    split at h
    · rename_i e hu
      cases hs : E.size e with
      | none => simp [hs] at h
      | some s =>
        cases hn : lenA x with
        | none => simp [hs, hn] at h
        | some m =>
          simp only [hs, hn] at h
          cases hf : firstA s (Nat.min m len) x μ with
          | none => simp [hf] at h
          | some new =>
            simp only [hf] at h
            have hlen := len_ok (P := P) (ι := ι) hn w
            have hx := first_ok (P := P) (w' := w) hS hf hbx (fun _ => rfl)
            have pre : ∀ (bs : Option Addr) (c : Nat) (w' : World), (match bs with | some a => (storeCells a (new.map (conc ι))).run P w = .ok () w' | none => w' = w) →
                (Builtin.copy_ #[t, u] ty #[.slice bs len c, conc ι x]).run P w = .ok (goInt (Nat.min m len)) w' := by
              intro bs c w' hst
              unfold Builtin.copy_
              simp only [List.getElem?_toArray, List.getElem?_cons_zero, List.getElem?_cons_succ, Sem.run_bind, hE.run_und hu, Result.andThen_ok, hlen, hE.run_size hs, hx.1]
              cases bs with
              | none => simp only at hst; subst hst; simp
              | some a => simp only at hst; simp [hst]
            simp only [List.map_cons, List.map_nil]
            cases base with
            | none =>
              simp at h
              obtain ⟨rfl, rfl⟩ := h
              exact Val.same hS (by simpa [goInt] using pre none cap w rfl) (by simp [goInt])
            | some a =>
              simp only at h
              cases new with
              | nil =>
                simp at h
                obtain ⟨rfl, rfl⟩ := h
                exact Val.same hS (by simpa [goInt] using pre (some (ι.addr a)) (ι.cap a.block cap) w (by simp [storeCells])) (by simp [goInt])
              | cons y ys =>
                simp only at h
                cases hst : storeCellsA a (y :: ys) μ with
                | none => simp [hst] at h
                | some μ1 =>
                  simp only [hst, Option.some.injEq, Prod.mk.injEq] at h
                  obtain ⟨rfl, rfl⟩ := h
                  obtain ⟨w', hr, hS', hnx⟩ := storeCells_ok (P := P) hS hst hx.2
                  exact ⟨ι, w', by simpa [goInt] using pre (some (ι.addr a)) (ι.cap a.block cap) w' hr, hS', Ext.refl _ _, by rw [hnx]; exact Nat.le_refl _, by simp [goInt]⟩
    · cases h
  · cases h

theorem lenB_ok (hS : Sim pr w0 ng ι μ w) {ts : List TypeId} {args : List Value} {ty : TypeId} {v : Value} (h : lenBA E ts args μ = some v) :
    (Builtin.len_ ⟨ts⟩ ty ⟨args.map (conc ι)⟩).run P w = .ok (conc ι v) w ∧ Bd μ.next v := by
  unfold lenBA at h
  split at h
  · rename_i t x
    simp only [List.map_cons, List.map_nil]
    split at h
    · rename_i s hu; simp at h; subst h; simp [Builtin.len_, hE.run_und hu, goInt]
    · rename_i n _ hu
      simp at h; subst h
      refine ⟨?_, by simp [goInt]⟩
      simp only [Builtin.len_, List.getElem?_toArray, List.getElem?_cons_zero, Sem.run_bind, hE.run_und hu, Result.andThen_ok, goInt, conc_int]
      simp
    · rename_i a n c hu; simp at h; subst h; cases a <;> simp [Builtin.len_, hE.run_und hu, goInt]
    · rename_i hu; simp at h; subst h; simp [Builtin.len_, hE.run_und hu, goInt]
    · rename_i r hu
      split at h
      · rename_i es c hg
        simp at h; subst h
        have hobj := (hS.obj r _ hg).2.1
        simp [Builtin.len_, hE.run_und hu, goInt, getObj, Sem.run, hobj]
      · cases h
    · cases h
  · cases h
theorem capB_ok {ts : List TypeId} {args : List Value} {ty : TypeId} {v : Value} {N : Nat} (h : capBA E ts args = some v) (w : World) :
    (Builtin.cap_ ⟨ts⟩ ty ⟨args.map (conc ι)⟩).run P w = .ok (conc ι v) w ∧ Bd N v := by
  unfold capBA at h
  split at h
  · rename_i t x
    simp only [List.map_cons, List.map_nil]
    split at h
    · rename_i n hu
      simp at h; subst h
      refine ⟨?_, by simp [goInt]⟩
      simp only [Builtin.cap_, List.getElem?_toArray, List.getElem?_cons_zero, Sem.run_bind, hE.run_und hu, Result.andThen_ok, goInt, conc_int]
      simp
    · rename_i a l c hu
      cases ho : capOpen c with
      | true => simp [ho] at h
      | false => simp [ho] at h; subst h; simp [Builtin.cap_, hE.run_und hu, goInt, Ren.cap, ho]
    · rename_i hu
      simp at h; subst h; simp [Builtin.cap_, hE.run_und hu, goInt]
    · cases h
  · cases h
end
end Go.Abs
