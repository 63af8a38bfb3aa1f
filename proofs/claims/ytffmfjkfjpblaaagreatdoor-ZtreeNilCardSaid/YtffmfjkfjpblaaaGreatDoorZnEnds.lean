/-
  'parts' comes to an end.
-/
import Derived.Test.YtffmfjkfjpblaaaGreatDoorZnLarge
namespace Go.Proofs.YtffmfjkfjpblaaaGreatDoor.PZtreeNil
open Go.RowKit Go.Abs Go.Proofs.YtffmfjkfjpblaaaGreatDoorW.PrintWords Go.Proofs.YtffmfjkfjpblaaaGreatDoorW.PrintLast Go.Proofs.YtffmfjkfjpblaaaGreatDoorW.PrintMore
set_option linter.unusedVariables false
/-! ### 'parts' comes to an end -/
theorem parts_le {k : Nat} (j : Nat) {a0 a1 a2 a3 a4 a5 a6 a7 a8 a9 a10 a11 r} (h : lagoonref00_parts.f k a0 a1 a2 a3 a4 a5 a6 a7 a8 a9 a10 a11 = some r) : lagoonref00_parts.f (k + j) a0 a1 a2 a3 a4 a5 a6 a7 a8 a9 a10 a11 = some r := by
  induction j with
  | zero => exact h
  | succ j ih => exact (lagoonref00_parts.mono_l (k + j)).1 _ _ _ _ _ _ _ _ _ _ _ _ r ih
theorem parts_l0_le {k : Nat} (j : Nat) {a0 a1 a2 a3 a4 a5 a6 a7 a8 a9 a10 a11 a12 r} (h : lagoonref00_parts.l0 k a0 a1 a2 a3 a4 a5 a6 a7 a8 a9 a10 a11 a12 = some r) : lagoonref00_parts.l0 (k + j) a0 a1 a2 a3 a4 a5 a6 a7 a8 a9 a10 a11 a12 = some r := by
  induction j with
  | zero => exact h
  | succ j ih => exact (lagoonref00_parts.mono_l (k + j)).2 _ _ _ _ _ _ _ _ _ _ _ _ _ r ih
theorem l0_end {k : Nat} {x1 x5 : Int} {a0 a1 a2 a3 a4 a5 a6 a7 a8 a9} {l : List S33} (h : ¬ (x5 < (l.length : Int)) ∨ ¬ x1 ≤ 20000) : lagoonref00_parts.l0 (k + 1) x1 x5 a0 a1 a2 a3 a4 a5 a6 a7 a8 a9 l = some x1 := by
  rw [lagoonref00_parts.l0]
  by_cases h1 : x5 < (l.length : Int)
  · rw [if_pos h1, if_neg (h.resolve_left (fun h => h h1))]
  · rw [if_neg h1]
theorem l0_round {k : Nat} {x1 x5 : Int} {a0 a1 a2 a3 a4 a5 a6 a7 a8 a9} {l : List S33} (h1 : x5 < (l.length : Int)) (h2 : x1 ≤ 20000) (h3 : 0 ≤ x5) : lagoonref00_parts.l0 (k + 1) x1 x5 a0 a1 a2 a3 a4 a5 a6 a7 a8 a9 l =
    (lagoonref00_parts.f k ((rd_T33 l x5).f0) ((rd_T33 l x5).f1) ((rd_T33 l x5).f2) ((rd_T33 l x5).f3) ((rd_T33 l x5).f4) ((rd_T33 l x5).f5) ((rd_T33 l x5).f6) ((rd_T33 l x5).f7) ((rd_T33 l x5).f8) ((rd_T33 l x5).f9) ((rd_T33 l x5).f10) x1).bind fun t => lagoonref00_parts.l0 k t (wrap64 (x5 + 1)) a0 a1 a2 a3 a4 a5 a6 a7 a8 a9 l := by
  rw [lagoonref00_parts.l0, if_pos h1, if_pos h2, if_pos h3]
theorem f10_lt (s : S33) : SizeOf.sizeOf s.f10 < SizeOf.sizeOf s := by
  cases s
  simp only [S33.mk.sizeOf_spec]
  omega
theorem parts_ends {w : World} : ∀ (N : Nat) (l : List S33), SizeOf.sizeOf l ≤ N → ∀ A, Kd.C k33 w A l.length l → ∀ a0 a1 a2 a3 a4 a5 a6 a7 a8 a9 a11, ∃ k r, lagoonref00_parts.f k a0 a1 a2 a3 a4 a5 a6 a7 a8 a9 l a11 = some r := by
  intro N
  induction N with
  | zero => intro l hl; cases l <;> simp at hl
  | succ N ih =>
    intro l hl A hC a0 a1 a2 a3 a4 a5 a6 a7 a8 a9 a11
    have hmax : l.length ≤ 9223372036854775807 := hC.2.1
    have hlast : ∀ (d x : Nat), x + d = l.length → ∀ x1 : Int, ∃ k r, lagoonref00_parts.l0 k x1 (x : Int) a0 a1 a2 a3 a4 a5 a6 a7 a8 a9 l = some r := by
      intro d
      induction d with
      | zero =>
        intro x hx x1
        refine ⟨1, x1, ?_⟩
        exact l0_end (.inl (by omega))
      | succ d ihd =>
        intro x hx x1
        have hlt : (x : Int) < (l.length : Int) := by omega
        by_cases h2 : x1 ≤ 20000
        · have hxl : x < l.length := by omega
          have hrd : rd_T33 l x = l[x] := by
            unfold rd_T33
            simp [List.getD, hxl]
          obtain ⟨ad, c, _, _, hK, _⟩ := Kd.C_get hC z33 (x : Int) (by omega) hlt
          have hK' : k33.K w (rd_T33 l x) c := by unfold rd_T33; exact hK
          obtain ⟨A2, c2, A3, c3, A9, c9, A10, c10, _, _, _, _, _, _, _, _, g10⟩ := k33_open hK'
          have hsz : SizeOf.sizeOf (rd_T33 l x).f10 ≤ N := by
            have h1 : SizeOf.sizeOf (rd_T33 l x) < SizeOf.sizeOf l := by rw [hrd]; exact List.sizeOf_lt_of_mem (List.getElem_mem hxl)
            have h2 := f10_lt (rd_T33 l x)
            omega
          obtain ⟨k1, r1, e1⟩ := ih _ hsz A10 g10 (rd_T33 l x).f0 (rd_T33 l x).f1 (rd_T33 l x).f2 (rd_T33 l x).f3 (rd_T33 l x).f4 (rd_T33 l x).f5 (rd_T33 l x).f6 (rd_T33 l x).f7 (rd_T33 l x).f8 (rd_T33 l x).f9 x1
          obtain ⟨k2, r2, e2⟩ := ihd (x + 1) (by omega) r1
          refine ⟨k1 + k2 + 1, r2, ?_⟩
          have hw : wrap64 ((x : Int) + 1) = ((x + 1 : Nat) : Int) := by unfold wrap64; omega
          have e1' := parts_le k2 e1
          have e2' := parts_l0_le k1 e2
          rw [Nat.add_comm k2 k1] at e2'
          have h0 : (0 : Int) ≤ (x : Int) := Int.natCast_nonneg x
          refine (l0_round hlt h2 h0).trans ?_
          rw [e1', Option.bind_some, hw]
          exact e2'
        · refine ⟨1, x1, ?_⟩
          exact l0_end (.inr h2)
    obtain ⟨k, r, e⟩ := hlast l.length 0 (by omega) (wrap64 ((wrap64 ((wrap64 ((wrap64 (a11 + 1)) + (a2.length : Int))) + (a3.length : Int))) + (a9.length : Int)))
    exact ⟨k + 1, r, by rw [lagoonref00_parts.f]; exact e⟩
/-- 'Large' answers on every request that can be read. -/
theorem large_calls {w0 : World} {x : S33} {cs : List Value} (h : k33.K w0 x cs) : ∃ r : Bool, ∀ w, Below w0.heap.size w0 w → Calls Tryz.prog 5 #[.agg cs.toArray] w fun e w' => e = .returned (.bool r) ∧ Below w.heap.size w w' := by
  obtain ⟨A2, c2, A3, c3, A9, c9, A10, c10, rfl, l2, g2, l3, g3, l9, g9, l10, g10⟩ := k33_open h
  obtain ⟨k, r, e⟩ := parts_ends _ x.f10 (Nat.le_refl _) A10 g10 x.f0 x.f1 x.f2 x.f3 x.f4 x.f5 x.f6 x.f7 x.f8 x.f9 0
  refine ⟨decide (r > 20000), fun w hb => ?_⟩
  exact lagoonref00_Large.calls k x.f0 x.f1 A2 c2 x.f2 A3 c3 x.f3 x.f4 x.f5 x.f6 x.f7 x.f8 A9 c9 x.f9 A10 c10 x.f10 _ w (Kd.C_below g2 hb) l2 (Kd.C_below g3 hb) l3 (Kd.C_below g9 hb) l9 (Kd.C_below g10 hb) l10
    (by simp only [lagoonref00_Large.f, lagoonref00_Parts.f, e, Option.bind_some])

/-! ### The copies come to an end -/
theorem bytes_ends {R : Nat} (hR : R ≤ 140737488351232) (l : List Int) (hl : l.length * 1 ≤ R) : ∃ k r, lagoonref00_CopyBytes.f k l = some r := by
  have key : ∀ (d x : Nat), x + d = l.length → ∀ acc : List Int, acc.length = x → ∃ k r, lagoonref00_CopyBytes.l0 k l acc (x : Int) = some r := by
    intro d
    induction d with
    | zero =>
      intro x hx acc _
      refine ⟨1, acc, ?_⟩
      rw [lagoonref00_CopyBytes.l0, if_neg (by omega)]
    | succ d ih =>
      intro x hx acc ha
      obtain ⟨k, r, e⟩ := ih (x + 1) (by omega) (acc ++ [rd l x]) (by simp [ha])
      refine ⟨k + 1, r, ?_⟩
      have hw : wrap64 ((x : Int) + 1) = ((x + 1 : Nat) : Int) := by unfold wrap64; omega
      rw [lagoonref00_CopyBytes.l0, if_pos (by omega), if_pos (by omega), if_pos (by omega), hw]
      exact e
  exact key l.length 0 (by omega) [] rfl
theorem acl_ends {R : Nat} (hR : R ≤ 140737488351232) (l : List S81) (hl : l.length * 40 ≤ R) : ∃ k r, lagoonref00_CopyAcl.f k l = some r := by
  have key : ∀ (d x : Nat), x + d = l.length → ∀ acc : List S81, acc.length = x → ∃ k r, lagoonref00_CopyAcl.l0 k l acc (x : Int) = some r := by
    intro d
    induction d with
    | zero =>
      intro x hx acc _
      refine ⟨1, acc, ?_⟩
      rw [lagoonref00_CopyAcl.l0, if_neg (by omega)]
    | succ d ih =>
      intro x hx acc ha
      obtain ⟨k, r, e⟩ := ih (x + 1) (by omega) (acc ++ [(⟨(rd_T81 l x).f0, (⟨(rd_T81 l x).f1.f0, (rd_T81 l x).f1.f1⟩ : S79)⟩ : S81)]) (by simp [ha])
      refine ⟨k + 1, r, ?_⟩
      have hw : wrap64 ((x : Int) + 1) = ((x + 1 : Nat) : Int) := by unfold wrap64; omega
      rw [lagoonref00_CopyAcl.l0, if_pos (by omega), if_pos (by omega), if_pos (by omega), hw]
      exact e
  exact key l.length 0 (by omega) [] rfl
theorem ids_ends {R : Nat} (hR : R ≤ 140737488351232) (l : List S79) (hl : l.length * 32 ≤ R) : ∃ k r, lagoonref00_CopyIds.f k l = some r := by
  have key : ∀ (d x : Nat), x + d = l.length → ∀ acc : List S79, acc.length = x → ∃ k r, lagoonref00_CopyIds.l0 k l acc (x : Int) = some r := by
    intro d
    induction d with
    | zero =>
      intro x hx acc _
      refine ⟨1, acc, ?_⟩
      rw [lagoonref00_CopyIds.l0, if_neg (by omega)]
    | succ d ih =>
      intro x hx acc ha
      obtain ⟨k, r, e⟩ := ih (x + 1) (by omega) (acc ++ [(⟨(rd_T79 l x).f0, (rd_T79 l x).f1⟩ : S79)]) (by simp [ha])
      refine ⟨k + 1, r, ?_⟩
      have hw : wrap64 ((x : Int) + 1) = ((x + 1 : Nat) : Int) := by unfold wrap64; omega
      rw [lagoonref00_CopyIds.l0, if_pos (by omega), if_pos (by omega), if_pos (by omega), hw]
      exact e
  exact key l.length 0 (by omega) [] rfl
theorem mono_le {α : Type} {f : Nat → Option α} (h : ∀ k, LeO (f k) (f (k + 1))) {k : Nat} (j : Nat) {r : α} (e : f k = some r) : f (k + j) = some r := by
  induction j with
  | zero => exact e
  | succ j ih => exact h _ r ih
theorem request_ends {R : Nat} (hR : R ≤ 140737488351232) : ∀ (n : Nat) (x : S33), Small R n x → ∃ k r, lagoonref00_CopyRequest.f k x.f0 x.f1 x.f2 x.f3 x.f4 x.f5 x.f6 x.f7 x.f8 x.f9 x.f10 = some r := by
  intro n
  induction n with
  | zero => intro x h; exact h.elim
  | succ n ih =>
    intro x h
    obtain ⟨h2, h3, h9, h10, hall⟩ := h
    obtain ⟨k1, t2, e1⟩ := bytes_ends hR x.f2 h2
    obtain ⟨k2, t3, e2⟩ := acl_ends hR x.f3 h3
    obtain ⟨k3, t9, e3⟩ := ids_ends hR x.f9 h9
    have key : ∀ (d i : Nat), i + d = x.f10.length → ∀ acc : List S33, acc.length = i → ∃ k r, lagoonref00_CopyRequest.l0 k (i : Int) x.f0 x.f1 x.f2 x.f3 x.f4 x.f5 x.f6 x.f7 x.f8 x.f9 x.f10 x.f0 x.f1 t2 t3 x.f4 x.f5 x.f6 x.f7 x.f8 t9 acc = some r := by
      intro d
      induction d with
      | zero =>
        intro i hi acc _
        refine ⟨1, (x.f0, x.f1, t2, t3, x.f4, x.f5, x.f6, x.f7, x.f8, t9, acc), ?_⟩
        rw [lagoonref00_CopyRequest.l0, if_neg (by omega)]
      | succ d ihd =>
        intro i hi acc ha
        have hil : i < x.f10.length := by omega
        have hrd : rd_T33 x.f10 i = x.f10[i] := by
          unfold rd_T33
          simp [List.getD, hil]
        obtain ⟨ka, ra, ea⟩ := ih (rd_T33 x.f10 i) (by rw [hrd]; exact hall _ (List.getElem_mem hil))
        obtain ⟨kb, rb, eb⟩ := ihd (i + 1) (by omega) (acc ++ [(⟨ra.1, ra.2.1, ra.2.2.1, ra.2.2.2.1, ra.2.2.2.2.1, ra.2.2.2.2.2.1, ra.2.2.2.2.2.2.1, ra.2.2.2.2.2.2.2.1, ra.2.2.2.2.2.2.2.2.1, ra.2.2.2.2.2.2.2.2.2.1, ra.2.2.2.2.2.2.2.2.2.2⟩ : S33)]) (by simp [ha])
        refine ⟨ka + kb + 1, rb, ?_⟩
        have hw : wrap64 ((i : Int) + 1) = ((i + 1 : Nat) : Int) := by unfold wrap64; omega
        have ea' := mono_le (fun k => (lagoonref00_CopyRequest.mono_l k).1 _ _ _ _ _ _ _ _ _ _ _) kb ea
        have eb' := mono_le (fun k => (lagoonref00_CopyRequest.mono_l k).2 _ _ _ _ _ _ _ _ _ _ _ _ _ _ _ _ _ _ _ _ _ _ _) ka eb
        rw [Nat.add_comm kb ka] at eb'
        rw [lagoonref00_CopyRequest.l0, if_pos (by omega), if_pos (by omega), ea', Option.bind_some, if_pos (by omega), hw]
        exact eb'
    obtain ⟨k4, r, e4⟩ := key x.f10.length 0 (by omega) [] rfl
    refine ⟨k1 + k2 + k3 + k4 + 1, r, ?_⟩
    have f1 := mono_le (fun k => lagoonref00_CopyBytes.mono x.f2 k) (k2 + k3 + k4) e1
    have f2 := mono_le (fun k => lagoonref00_CopyAcl.mono x.f3 k) (k1 + k3 + k4) e2
    have f3 := mono_le (fun k => lagoonref00_CopyIds.mono x.f9 k) (k1 + k2 + k4) e3
    have f4 := mono_le (fun k => (lagoonref00_CopyRequest.mono_l k).2 _ _ _ _ _ _ _ _ _ _ _ _ _ _ _ _ _ _ _ _ _ _ _) (k1 + k2 + k3) e4
    rw [show k1 + (k2 + k3 + k4) = k1 + k2 + k3 + k4 by omega] at f1
    rw [show k2 + (k1 + k3 + k4) = k1 + k2 + k3 + k4 by omega] at f2
    rw [show k3 + (k1 + k2 + k4) = k1 + k2 + k3 + k4 by omega] at f3
    rw [show k4 + (k1 + k2 + k3) = k1 + k2 + k3 + k4 by omega] at f4
    rw [lagoonref00_CopyRequest.f, f1, Option.bind_some, f2, Option.bind_some, f3, Option.bind_some]
    exact f4
end Go.Proofs.YtffmfjkfjpblaaaGreatDoor.PZtreeNil
