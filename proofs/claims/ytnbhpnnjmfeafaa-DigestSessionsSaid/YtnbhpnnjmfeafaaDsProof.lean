/-
  'lagoonlaw08.DigestSessions' returns true whatever the list of sessions, and what is handed in reads as it did. No condition.
-/
import Derived.Test.YtnbhpnnjmfeafaaDsNum
import Derived.Test.YtnbhpnnjmfeafaaRows
import Derived.WalkKit
import Derived.ProofKit
import Derived.OpenShut
import Derived.ChangeOld
import Derived.Below
import Derived.Deep.SlicePairs
namespace Go.Proofs.Ytnbhpnnjmfeafaa
open Go.ChangeShapes Go.WideShapes Go.ChangeAt Go.RowKit Go.Deep
set_option linter.unusedVariables false

theorem own : ownKnob Try.prog.godebug = none := by kernel_rfl
theorem laidOut : laidOutB Try.prog = true := by kernel_rfl

/-- A fact kept from the walk. -/
structure Kp (p : Prop) : Prop where
  out : p
/-- A session's numbers fit. -/
structure Fit (id t : Int) : Prop where
  a : -9223372036854775808 ≤ id
  b : id ≤ 9223372036854775807
  c : -2147483648 ≤ t
  d : t ≤ 2147483647
theorem both4 {id t : Int} (h : Fit id t) (w : World) : Calls Try.prog 4 #[.agg #[.int .i64 id, .int .i32 t]] w fun e w' => e = .returned (.int .u64 (num id t)) ∧ Below w.heap.size w w' := calls4 id t w
theorem both5 {id t : Int} (h : Fit id t) (w : World) : Calls Try.prog 5 #[.agg #[.int .i64 id, .int .i32 t]] w fun e w' => e = .returned (.int .u64 (num id t)) ∧ Below w.heap.size w w' := calls5 h.a h.b h.c h.d w
theorem fit12 : Fit 1 2 := ⟨by decide, by decide, by decide, by decide⟩

/-- A slice of sessions that came in: nil; or a row of pairs. -/
def IsRow (w : World) (a : Option Addr) (len : Nat) (zi zt : Nat → Int) : Prop :=
  len = 0 ∨
  ∃ b off, a = some ⟨b, off, none⟩ ∧ b < w.heap.size ∧ len ≤ 9223372036854775807 ∧ ∀ i, i < len → w.cell? ⟨b, off + i * 2, none⟩ = some (.int .i64 (zi i)) ∧ w.cell? ⟨b, off + i * 2 + 1, none⟩ = some (.int .i32 (zt i)) ∧ Fit (zi i) (zt i)

set_option maxHeartbeats 4000000 in
set_option maxRecDepth 100000 in
theorem walk (a : Option Addr) (len cap : Nat) (zi zt : Nat → Int) (w : World) (h : IsRow w a len zi zt) :
    Calls Try.prog 3 #[.slice a len cap] w fun e w' => e = .returned (.bool true) ∧ Below w.heap.size w w' := by
  rcases h with rfl | ⟨b, off, rfl, hb, hm, hc⟩
  · go_enter Try.func3, Try.ntmps3
    go_wp2_with fail
    go_loopw [3] (fun i wr => i = .int .i64 0 ∧ Below w.heap.size w wr) (fun i _ => 0)
    case atStart => exact ⟨rfl, Below.refl _ _⟩
    case round =>
      obtain ⟨rfl, hbel⟩ := hrel
      go_wp2_with (first
        | (go_at_call 4; refine (both4 fit12 _).mono ?_; rintro e w4 ⟨rfl, hw4⟩)
        | (go_at_call 5; refine (both5 fit12 _).mono ?_; rintro e w5 ⟨rfl, hw5⟩))
      go_ret
      exact ⟨rfl, (hbel.trans (hw4.mono hbel.size)).trans (hw5.mono (Nat.le_trans hbel.size hw4.size))⟩
  · have HC : Hid (∀ i, i < len → w.cell? ⟨b, off + i * 2, none⟩ = some (.int .i64 (zi i)) ∧ w.cell? ⟨b, off + i * 2 + 1, none⟩ = some (.int .i32 (zt i)) ∧ Fit (zi i) (zt i)) := hc
    clear hc
    by_cases hbig : (len : Int) ≥ 2147483647
    · go_enter Try.func3, Try.ntmps3
      go_wp2_with fail
      go_ret
      exact ⟨rfl, Below.refl _ _⟩
    have hbig2 : ((len : Int) ≥ 2147483647) = False := by simp; omega
    go_enter Try.func3, Try.ntmps3
    go_wp2_with fail
    go_loopw [3] (fun i wr => ∃ k : Nat, k ≤ len ∧ i = .int .i64 k ∧ Below w.heap.size w wr) (fun i _ => len - (intOf i).toNat)
    case atStart => exact ⟨0, Nat.zero_le _, rfl, Below.refl _ _⟩
    case round =>
      obtain ⟨k, hk, rfl, hbel⟩ := hrel
      by_cases hlt : k < len
      · have hx1 : wr.cell? ⟨b, off + k * 2, none⟩ = some (.int .i64 (zi k)) := (hbel.cell (by exact hb)).trans (HC.out k hlt).1
        have hx2 : wr.cell? ⟨b, off + k * 2 + 1, none⟩ = some (.int .i32 (zt k)) := (hbel.cell (by exact hb)).trans (HC.out k hlt).2.1
        have hfit : Fit (zi k) (zt k) := (HC.out k hlt).2.2
        have hk1 : k < 2147483647 := by omega
        have HB : Kp (Below w.heap.size w wr) := ⟨hbel⟩
        have Hb : Kp (b < wr.heap.size) := ⟨Nat.lt_of_lt_of_le hb hbel.size⟩
        clear HC hbig hbig2 hm hk hb hbel
        go_wp2_with (first
          | (go_at_call 4; refine (both4 hfit _).mono ?_; rintro e w4 ⟨rfl, hw4⟩; have hy1 : w4.cell? ⟨b, off + k * 2, none⟩ = some (.int .i64 (zi k)) := (hw4.cell (by exact Hb.out)).trans hx1; have hy2 : w4.cell? ⟨b, off + k * 2 + 1, none⟩ = some (.int .i32 (zt k)) := (hw4.cell (by exact Hb.out)).trans hx2)
          | (go_at_call 5; refine (both5 hfit _).mono ?_; rintro e w5 ⟨rfl, hw5⟩))
        all_goals go_roundw
        case rel => exact ⟨k + 1, by omega, by go_num, (HB.out.trans (hw4.mono HB.out.size)).trans (hw5.mono (Nat.le_trans HB.out.size hw4.size))⟩
        case measure => simp [intOf]; omega
      · obtain rfl : k = len := by omega
        clear hlt hk HC hbig hbig2 hm
        go_wp2_with (first
          | (go_at_call 4; refine (both4 fit12 _).mono ?_; rintro e w4 ⟨rfl, hw4⟩)
          | (go_at_call 5; refine (both5 fit12 _).mono ?_; rintro e w5 ⟨rfl, hw5⟩))
        go_ret
        exact ⟨rfl, (hbel.trans (hw4.mono hbel.size)).trans (hw5.mono (Nat.le_trans hbel.size hw4.size))⟩

theorem under2 : Try.prog.underlying 2 = some (.int .i64) := by kernel_rfl
theorem under21 : Try.prog.underlying 21 = some (.int .i32) := by kernel_rfl
theorem wf64 {x : Int} (h : (Lit.int .i64 x).wf = true) : -9223372036854775808 ≤ x ∧ x ≤ 9223372036854775807 := by
  simp only [Lit.wf, Bool.and_eq_true, decide_eq_true_eq] at h; exact h
theorem wf32 {x : Int} (h : (Lit.int .i32 x).wf = true) : -2147483648 ≤ x ∧ x ≤ 2147483647 := by
  simp only [Lit.wf, Bool.and_eq_true, decide_eq_true_eq] at h; exact h

set_option maxRecDepth 100000 in
theorem lifted (os : Os) (started : os.Started) (H : Type) (enc : TypeId × Value → H) :
    ReturnsInHanded {} Try.checked os 3 .any (Rows.digestSessionsSpec.pre6 enc Try.prog Try.f3 Rows.digestSessionsRow.domain false) (Rows.digestSessionsSpec.post enc Try.prog Try.f3 false true false false) := by
  refine returnsInHanded_of_change (C := Try.checked) own started (by kernel_rfl) Try.func3
    (ChangeSpec.witness6 (enc := enc) (C := Try.checked) false ⟨#[], #[.slice none 0 0], []⟩ 8 (by kernel_rfl) (by kernel_rfl) (by kernel_rfl) (by kernel_rfl)) ?_
  intro W base args ds gs before hval0 hW hcnd _
  have hval : ∀ (j : Nat) t v, Try.f3.params[j]? = some t → args[j]? = some v → Value.okWide Try.prog W .any base t v := hval0
  have hW' := hW
  obtain ⟨p, q, hA0, hV, rfl, hfz, hnd⟩ := hW
  have hA : DataW.TrodAll enc Try.prog W 0 (fun _ => true) true Try.f3.params.toList args.toList ds p := hA0
  rw [Try.params3] at hA hval
  obtain ⟨v0, d0, rfl, rfl, h0⟩ := trodAll_one hA
  obtain ⟨rfl, rfl⟩ := trodVars_none hV
  obtain ⟨a0, len0, cap0, rfl⟩ := okWide_slice Try.underlying22 (hval 0 22 v0 rfl rfl)
  have k0 := h0
  have lt0 : ∀ x ∈ p, x.block < W.heap.size := by obtain ⟨m, hm⟩ := k0; exact DataW.trod_lt m _ _ _ hm
  obtain ⟨zi, zt, w0⟩ : ∃ zi zt, IsRow W a0 len0 zi zt := by
    obtain ⟨fuel, hf⟩ := h0
    rcases open_slice_pairs Try.underlying22 Try.underlying26 (by kernel_rfl) rfl rfl (by kernel_rfl) (by kernel_rfl) hf with ⟨hcs, _⟩ | ⟨x, l, c, m, n, V0, V1, D0, D1, P0, P1, hcs, _, hl, hm, hmm, _, hcell⟩
    · simp [Value.cells] at hcs
      obtain ⟨rfl, rfl, rfl⟩ := hcs
      exact ⟨fun _ => 0, fun _ => 0, .inl rfl⟩
    · simp [Value.cells] at hcs
      obtain ⟨rfl, rfl, rfl⟩ := hcs
      by_cases h0 : len0 = 0
      · exact ⟨fun _ => 0, fun _ => 0, .inl h0⟩
      have hlm : len0 ≤ m := by rw [hmm]; simp; exact hl
      obtain ⟨b, off, spot⟩ := x
      have hspot : spot = none := by simpa [Addr.add] using World.cell?_spot (hcell 0 (by omega)).1
      subst hspot
      have hlt : b < W.heap.size := by simpa [Addr.add] using Go.block_lt_of_cell (hcell 0 (by omega)).1
      have each : ∀ i, ∃ q : Int × Int, i < len0 → W.cell? ⟨b, off + i * 2, none⟩ = some (.int .i64 q.1) ∧ W.cell? ⟨b, off + i * 2 + 1, none⟩ = some (.int .i32 q.2) ∧ Fit q.1 q.2 := by
        intro i
        by_cases hi : i < len0
        · obtain ⟨g1, g2, g3, g4⟩ := hcell i (by omega)
          obtain ⟨id, e1, _, w1⟩ := DataW.trod_int under2 g3
          obtain ⟨t, e2, _, w2⟩ := DataW.trod_int under21 g4
          simp at e1 e2
          rw [e1] at g1
          rw [e2] at g2
          rw [Abs.addr_add] at g1 g2
          rw [← Nat.add_assoc] at g2
          exact ⟨(id, t), fun _ => ⟨g1, g2, (wf64 w1).1, (wf64 w1).2, (wf32 w2).1, (wf32 w2).2⟩⟩
        · exact ⟨(0, 0), fun h => absurd h hi⟩
      have each' := Classical.axiomOfChoice each
      obtain ⟨f, hf'⟩ := each'
      exact ⟨fun i => (f i).1, fun i => (f i).2, .inr ⟨b, off, rfl, hlt, by unfold maxLen at hm; omega, hf'⟩⟩
  refine (walk a0 len0 cap0 zi zt W w0).mono fun e W' ⟨he, bel⟩ => ?_
  subst he
  exact ⟨_, rfl, _, _, _, [], _, [], hW', trodAll_mk1 (shut_bool Try.underlying4 _), (trodAll_cons_mk (Below.trod laidOut (by kernel_rfl) (of_decide_eq_true (by kernel_rfl)) k0 bel lt0) trodAll_mk0), rfl, bel.frame _, fun h => by cases h⟩

theorem over : Rows.digestSessionsRow.holds Try.pinned (OpenSpec.ofChange Rows.digestSessionsSpec) :=
  OpenClaim.holds_of_wide 3 Try.f3 rfl rfl rfl rfl rfl rfl rfl ⟨rfl, rfl, rfl, rfl, rfl⟩ rfl rfl rfl rfl rfl (by kernel_rfl) Try.func3 (by kernel_rfl)
    (of_decide_eq_true (by kernel_rfl)) (by unfold Func.isWrapper; first | (rw [if_pos (by decide +kernel)]; kernel_rfl) | (rw [if_neg (by decide +kernel)]; exact ⟨rfl, rfl⟩))
    (fun os started H enc _ => lifted os started H enc)

/-- The statement. -/
theorem digestSessions : Rows.DigestSessionsSaid := over
#print axioms digestSessions
end Go.Proofs.Ytnbhpnnjmfeafaa
