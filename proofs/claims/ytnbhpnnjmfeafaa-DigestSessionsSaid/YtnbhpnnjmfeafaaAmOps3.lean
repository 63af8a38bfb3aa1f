/-
  The abstract machine's operations are the program's: slices, indexes, comparisons, conversions.
-/
import Derived.Test.YtnbhpnnjmfeafaaAmOps2
namespace Go.Abs
set_option linter.unusedVariables false
set_option linter.unusedSimpArgs false

section
variable {P : Program} {E : Env} {pr : Nat → Prop} {w0 : World} {ng : Nat} {ι : Ren} {μ : Hp} {w : World}

theorem natOf_run {v : Value} {b k : Nat} (h : natOf v b = some k) : ∃ kk i, v = .int kk i ∧ 0 ≤ i ∧ i ≤ b ∧ k = i.toNat := by
  unfold natOf at h
  split at h
  · rename_i kk i
    cases hc : (decide (0 ≤ i) && decide (i ≤ (b : Int))) with
    | false => simp [hc] at h
    | true =>
      simp only [hc, cond_true, Option.some.injEq] at h
      simp only [Bool.and_eq_true, decide_eq_true_eq] at hc
      exact ⟨kk, i, rfl, hc.1, hc.2, h.symm⟩
  · cases h
theorem addr_add_conc (ι : Ren) (a : Addr) (k : Nat) : ι.addr (a.add k) = (ι.addr a).add k := by
  unfold Ren.addr Addr.add
  split <;> simp [Nat.add_assoc]
theorem block_add (a : Addr) (k : Nat) : (a.add k).block = a.block := by unfold Addr.add; split <;> rfl

theorem sliceBound_run {v : Value} {b y k : Nat} (h : natOf v b = some k) (hy : b ≤ y) (code : BoundsCode) (w : World) :
    (Instr.sliceBound (conc ι v) y code).run P w = .ok k w ∧ k ≤ b := by
  obtain ⟨kk, i, rfl, h0, h1, rfl⟩ := natOf_run h
  refine ⟨?_, by omega⟩
  simp only [Instr.sliceBound, conc_int, asIntOf, Sem.run_bind, Sem.run_pure, Result.andThen_ok]
  rw [if_pos ⟨h0, by omega⟩]
  rfl

theorem bounds_ok {len cap : Nat} {lo hi mx : Option Value} {l h m : Nat} (hb : boundsA len cap lo hi mx = some (l, h, m)) (x : Nat) (isS : Bool) (w : World) :
    (Instr.sliceBounds isS len (capOf cap + x) (lo.map (conc ι)) (hi.map (conc ι)) (mx.map (conc ι))).run P w = .ok (l, h, capOf m + if mx.isSome then 0 else x) w ∧
    l ≤ capOf m ∧ (mx = none → m = cap) ∧ (mx.isSome = true → capOpen m = false) ∧ capOf m ≤ capOf cap ∧ (h ≤ len ∨ h ≤ capOf m) := by
  unfold boundsA at hb
  have two : ∀ k, capOf (2 * k) = k ∧ capOpen (2 * k) = false := fun k => by unfold capOf capOpen; exact ⟨by omega, beq_no (by omega)⟩
  cases mx with
  | none =>
    simp only at hb
    cases hi with
    | none =>
      simp only at hb
      cases lo with
      | none =>
        simp at hb
        obtain ⟨rfl, rfl, rfl⟩ := hb
        exact ⟨by simp [Instr.sliceBounds], Nat.zero_le _, fun _ => rfl, by simp, Nat.le_refl _, .inl (Nat.le_refl _)⟩
      | some v =>
        cases hv : natOf v len with
        | none => simp [hv] at hb
        | some k =>
          simp only [hv] at hb
          cases hle : Nat.ble k (capOf cap) with
          | false => simp [hle] at hb
          | true =>
            simp [hle] at hb
            obtain ⟨rfl, rfl, rfl⟩ := hb
            refine ⟨?_, Nat.le_of_ble_eq_true hle, fun _ => rfl, by simp, Nat.le_refl _, .inl (Nat.le_refl _)⟩
            simp [Instr.sliceBounds, (sliceBound_run (P := P) (ι := ι) hv (Nat.le_refl _) _ w).1]
    | some vh =>
      cases hvh : natOf vh (capOf cap) with
      | none => simp [hvh] at hb
      | some hh =>
        simp only [hvh] at hb
        have e1 := fun c => (sliceBound_run (P := P) (ι := ι) (y := capOf cap + x) hvh (by omega) c w).1
        cases lo with
        | none =>
          simp at hb
          obtain ⟨rfl, rfl, rfl⟩ := hb
          exact ⟨by simp [Instr.sliceBounds, e1], Nat.zero_le _, fun _ => rfl, by simp, Nat.le_refl _, .inr (sliceBound_run (P := P) (ι := ι) (y := capOf cap + x) hvh (by omega) .sliceB w).2⟩
        | some v =>
          cases hv : natOf v hh with
          | none => simp [hv] at hb
          | some k =>
            simp only [hv] at hb
            cases hle : Nat.ble k (capOf cap) with
            | false => simp [hle] at hb
            | true =>
              simp [hle] at hb
              obtain ⟨rfl, rfl, rfl⟩ := hb
              refine ⟨?_, Nat.le_of_ble_eq_true hle, fun _ => rfl, by simp, Nat.le_refl _, .inr (sliceBound_run (P := P) (ι := ι) (y := capOf cap + x) hvh (by omega) .sliceB w).2⟩
              simp [Instr.sliceBounds, e1, (sliceBound_run (P := P) (ι := ι) hv (Nat.le_refl _) _ w).1]
  | some vm =>
    cases hvm : natOf vm (capOf cap) with
    | none => simp [hvm] at hb
    | some mm =>
      simp only [hvm, Option.map_some] at hb
      have e0 := fun c => (sliceBound_run (P := P) (ι := ι) (y := capOf cap + x) hvm (by omega) c w).1
      cases hi with
      | none => simp at hb
      | some vh =>
        cases hvh : natOf vh (capOf (2 * mm)) with
        | none => simp [hvh] at hb
        | some hh =>
          simp only [hvh] at hb
          have e1 := fun c => (sliceBound_run (P := P) (ι := ι) (y := mm) hvh (by rw [(two mm).1]; exact Nat.le_refl _) c w).1
          cases lo with
          | none =>
            simp at hb
            obtain ⟨rfl, rfl, rfl⟩ := hb
            exact ⟨by simp [Instr.sliceBounds, e0, e1, (two mm).1], Nat.zero_le _, by simp, fun _ => (two mm).2, by rw [(two mm).1]; exact (sliceBound_run (P := P) (ι := ι) (y := capOf cap + x) hvm (by omega) .sliceB w).2, .inr (sliceBound_run (P := P) (ι := ι) (y := mm) hvh (by rw [(two mm).1]; exact Nat.le_refl _) .sliceB w).2⟩
          | some v =>
            cases hv : natOf v hh with
            | none => simp [hv] at hb
            | some k =>
              simp only [hv] at hb
              cases hle : Nat.ble k (capOf (2 * mm)) with
              | false => simp [hle] at hb
              | true =>
                simp [hle] at hb
                obtain ⟨rfl, rfl, rfl⟩ := hb
                refine ⟨?_, Nat.le_of_ble_eq_true hle, by simp, fun _ => (two mm).2, by rw [(two mm).1]; exact (sliceBound_run (P := P) (ι := ι) (y := capOf cap + x) hvm (by omega) .sliceB w).2, .inr (sliceBound_run (P := P) (ι := ι) (y := mm) hvh (by rw [(two mm).1]; exact Nat.le_refl _) .sliceB w).2⟩
                simp [Instr.sliceBounds, e0, e1, (two mm).1, (sliceBound_run (P := P) (ι := ι) hv (Nat.le_refl _) _ w).1]

theorem cap_sub {m l : Nat} (h : l ≤ capOf m) : capOf (m - 2 * l) = capOf m - l ∧ capOpen (m - 2 * l) = capOpen m := by
  unfold capOf capOpen at *
  refine ⟨by omega, ?_⟩
  congr 1
  omega

variable (hE : EnvOk P E) (hS : Sim pr w0 ng ι μ w)
include hE
theorem slice_ok (hS : Sim pr w0 ng ι μ w) {t : TypeId} {x : Value} {lo hi mx : Option Value} {v : Value} {μ' : Hp} (h : sliceA E t x lo hi mx μ = some (v, μ')) (hb : Bd μ.next x) :
    Val P pr w0 ng ι μ w (Instr.sliceAt t (conc ι x) (lo.map (conc ι)) (hi.map (conc ι)) (mx.map (conc ι))) v μ' := by
  unfold sliceA at h
  split at h
  · -- a string
    rename_i s hu
    split at h
    · split at h
      · rename_i l hh m hbd
        simp at h
        obtain ⟨rfl, rfl⟩ := h
        have two : capOf (2 * s.size) = s.size := by unfold capOf; omega
        have := (bounds_ok (P := P) (ι := ι) hbd 0 false w).1
        rw [two] at this
        refine Val.same hS ?_ (by simp)
        simp only [Nat.add_zero, Option.map_none] at this
        simp [Instr.sliceAt, Instr.slice, hE.run_und hu, this]
      · cases h
    · cases h
  · -- a slice
    rename_i e a len cap hu
    split at h
    · rename_i s l hh m hs hbd hsp
      have hbk := fun x => bounds_ok (P := P) (ι := ι) hbd x true w
      have hle := (hbk 0).2.1
      obtain ⟨c1, c2⟩ := cap_sub hle
      have run : ∀ (r : Value), (r = .slice (if capOf m + (if mx.isSome then 0 else bif capOpen cap then ι.ext a.block else 0) = l then some (ι.addr a) else some ((ι.addr a).add (l * s))) (hh - l)
          (capOf m + (if mx.isSome then 0 else bif capOpen cap then ι.ext a.block else 0) - l)) →
          (Instr.sliceAt t (conc ι (.slice (some a) len cap)) (lo.map (conc ι)) (hi.map (conc ι)) (mx.map (conc ι))).run P w = .ok r w := by
        intro r hr
        subst hr
        have := (hbk (bif capOpen cap then ι.ext a.block else 0)).1
        simp only [Instr.sliceAt, Instr.slice, conc_slice, Sem.run_bind, hE.run_und hu, Result.andThen_ok, Ren.cap, this, hE.run_size hs, Option.map_some, Sem.run_pure]
      have hxm : ∀ y, capOpen m = false → (if mx.isSome = true then 0 else bif capOpen cap then y else 0) = 0 := by
        intro y ho
        cases hmx : mx with
        | some _ => rfl
        | none =>
          have := (hbk 0).2.2.1 hmx
          subst this
          simp [ho]
      have hxo : ∀ y, capOpen m = true → (if mx.isSome = true then 0 else bif capOpen cap then y else 0) = y := by
        intro y ho
        cases hmx : mx with
        | some _ => have := (hbk 0).2.2.2.1 (by simp [hmx]); rw [this] at ho; cases ho
        | none =>
          have := (hbk 0).2.2.1 hmx
          subst this
          simp [ho]
      split at h
      · -- exact, nothing left
        rename_i he ho
        have he' := beq_yes he
        simp at h
        obtain ⟨rfl, rfl⟩ := h
        refine Val.same hS (run _ ?_) (by simpa using hb)
        rw [hxm _ ho, Nat.add_zero, if_pos he', conc_slice, Ren.cap, c1, c2, ho]
        simp
      · -- open, nothing seen is left
        rename_i he ho
        have he' := beq_yes he
        split at h
        · rename_i k μ1 hn
          simp at h
          obtain ⟨rfl, rfl⟩ := h
          have hk := (Hp.new_eq hn).1
          subst hk
          obtain ⟨b, o, sp⟩ := a
          simp only at hsp
          subst hsp
          let L : Nat × Nat := ((ι.loc b).1, (ι.loc b).2 + o + if ι.ext b = 0 then 0 else l * s)
          obtain ⟨hS', hx, hnx, _⟩ := hS.newAt (l := L) (e := ι.ext b) hn rfl rfl rfl (Nat.le_refl _) (fun _ _ _ => rfl) (fun h => by cases h) (fun h => by cases h) (fun h => by cases h) (w' := w) trivial
          refine ⟨_, w, run _ ?_, hS', hx, by omega, by simp [hnx]⟩
          rw [hxo _ ho, conc_slice, Ren.cap, c1, c2, ho]
          simp only [Ren.addr, Ren.upd, if_true, L, Nat.add_zero, cond_true]
          by_cases hz : ι.ext b = 0
          · rw [if_pos hz, if_pos (by omega), hz]
            simp
          · rw [if_neg hz, if_neg (by omega), addr_add]
            simp
            omega
        · cases h
      · rename_i he
        have he' := Nat.ne_of_beq_eq_false he
        simp at h
        obtain ⟨rfl, rfl⟩ := h
        refine Val.same hS (run _ ?_) (by simpa [block_add] using hb)
        have hgt : l < capOf m := by omega
        rw [conc_slice, addr_add_conc, Ren.cap, c1, c2, block_add]
        cases ho : capOpen m with
        | false => rw [hxm _ ho, if_neg (by omega)]; simp
        | true => rw [hxo _ ho, if_neg (by omega)]; simp; omega
    · cases h
  · rename_i e hu
    split at h
    · rename_i s r hs hbd
      simp at h
      obtain ⟨rfl, rfl⟩ := h
      obtain ⟨l, hh, m⟩ := r
      have hk := bounds_ok (P := P) (ι := ι) hbd 0 true w
      obtain ⟨k1, k2, k3, k4, k5, k6⟩ := hk
      have z : capOf 0 = 0 := rfl
      have hm : capOf m = 0 ∧ hh = 0 := by rw [z] at k5; omega
      have hl : l = 0 := by omega
      refine Val.same hS ?_ (by simp)
      simp only [z, Nat.zero_add, Nat.add_zero, ite_self, hm.1, hm.2, hl] at k1
      simp only [Instr.sliceAt, Instr.slice, conc_nilslice, Sem.run_bind, hE.run_und hu, Result.andThen_ok, k1, hE.run_size hs, Sem.run_pure]
      simp
    · cases h
  · rename_i n e a hu
    split at h
    · rename_i s l hh m hs hbd
      simp at h
      obtain ⟨rfl, rfl⟩ := h
      have two : capOf (2 * n) = n := by unfold capOf; omega
      have hk := bounds_ok (P := P) (ι := ι) hbd 0 false w
      rw [two] at hk
      obtain ⟨k1, k2, k3, k4, k5, k6⟩ := hk
      obtain ⟨c1, c2⟩ := cap_sub k2
      have ho : capOpen m = false := by
        cases mx with
        | some _ => exact k4 rfl
        | none => rw [k3 rfl]; unfold capOpen; exact beq_no (by omega)
      simp only [Nat.add_zero, ite_self] at k1
      refine Val.same hS ?_ ?_
      · simp only [Instr.sliceAt, conc_ptr, Sem.run_bind, hE.run_und hu, Result.andThen_ok, Instr.sureAddr, Sem.run_pure, k1, hE.run_size hs, conc_slice, Ren.cap, c1, c2, ho]
        cases hm : Nat.beq (capOf m) l with
        | true => have := beq_yes hm; simp [this]
        | false => have := Nat.ne_of_beq_eq_false hm; simp [this, addr_add_conc]
      · cases hm : Nat.beq (capOf m) l <;> simp_all [block_add]
    · cases h
  · cases h
end
end Go.Abs
