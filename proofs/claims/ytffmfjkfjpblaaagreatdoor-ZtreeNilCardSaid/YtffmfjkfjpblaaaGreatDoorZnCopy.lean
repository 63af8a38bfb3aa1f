/-
  What 'CopyRequest' and 'CopyTxn' answer: one cell each, of the same kinds.
-/
import Derived.Test.YtffmfjkfjpblaaaGreatDoorZnEnds
namespace Go.Proofs.YtffmfjkfjpblaaaGreatDoor.PZtreeNil
open Go.RowKit Go.Abs Go.Proofs.YtffmfjkfjpblaaaGreatDoorW.PrintWords Go.Proofs.YtffmfjkfjpblaaaGreatDoorW.PrintLast Go.Proofs.YtffmfjkfjpblaaaGreatDoorW.PrintMore
set_option linter.unusedVariables false

theorem R_opq {α : Type} {d : Kd α} {e : Nat} {w : World} {base : Nat} {ok : Nat → Prop} {v : Value} {xs : List α} (h : Kd.R d e w base ok v xs) : okOpq v = true := by
  obtain ⟨_, inner, ho, _⟩ := h
  rcases ho.2 with ⟨rfl, _⟩ | ⟨g, cap, cur, rfl, _⟩ <;> rfl
/-- A request's cells: words and two truth values. -/
def ReqLike (v : Value) (b5 b6 : Bool) : Prop := ∃ v0 v1 v2 v3 v4 v7 v8 v9 v10, v = .agg #[v0, v1, v2, v3, v4, .bool b5, .bool b6, v7, v8, v9, v10] ∧ okOpq v0 = true ∧ okOpq v1 = true ∧ okOpq v2 = true ∧ okOpq v3 = true ∧ okOpq v4 = true ∧ okOpq v7 = true ∧ okOpq v8 = true ∧ okOpq v9 = true ∧ okOpq v10 = true
def TxnLike (v : Value) (b5 b6 : Bool) : Prop := ∃ u0 u1 u2 u3 u4 v0 v1 v2 v3 v4 v7 v8 v9 v10, v = .agg #[u0, u1, u2, u3, u4, v0, v1, v2, v3, v4, .bool b5, .bool b6, v7, v8, v9, v10] ∧ okOpq u0 = true ∧ okOpq u1 = true ∧ okOpq u2 = true ∧ okOpq u3 = true ∧ okOpq u4 = true ∧ okOpq v0 = true ∧ okOpq v1 = true ∧ okOpq v2 = true ∧ okOpq v3 = true ∧ okOpq v4 = true ∧ okOpq v7 = true ∧ okOpq v8 = true ∧ okOpq v9 = true ∧ okOpq v10 = true
theorem copyReq_calls {R n : Nat} (hR : R ≤ 140737488351232) {w0 : World} {x : S33} {cs : List Value} (h : k33.K w0 x cs) (hs : Small R n x) :
    ∃ b5 b6 : Bool, ∀ w, Below w0.heap.size w0 w → Calls Tryz.prog 15 #[.agg cs.toArray] w fun e w' => ∃ v, e = .returned v ∧ ReqLike v b5 b6 ∧ Below w.heap.size w w' := by
  obtain ⟨A2, c2, A3, c3, A9, c9, A10, c10, rfl, l2, g2, l3, g3, l9, g9, l10, g10⟩ := k33_open h
  obtain ⟨k, ⟨r1, r2, r3, r4, r5, r6, r7, r8, r9, r10, r11⟩, e⟩ := request_ends hR n x hs
  refine ⟨r6, r7, fun w hb => ?_⟩
  refine (lagoonref00_CopyRequest.calls k x.f0 x.f1 A2 c2 x.f2 A3 c3 x.f3 x.f4 x.f5 x.f6 x.f7 x.f8 A9 c9 x.f9 A10 c10 x.f10 r1 r2 r3 r4 r5 r6 r7 r8 r9 r10 r11 w (Kd.C_below g2 hb) l2 (Kd.C_below g3 hb) l3 (Kd.C_below g9 hb) l9 (Kd.C_below g10 hb) l10 e).mono ?_
  rintro e w' ⟨v2, v3, v9, v10, rfl, q2, q3, q9, q10, hbel⟩
  exact ⟨_, rfl, ⟨_, _, _, _, _, _, _, _, _, rfl, rfl, rfl, R_opq q2, R_opq q3, rfl, rfl, rfl, R_opq q9, R_opq q10⟩, hbel⟩
theorem copyTxn_calls {R n : Nat} (hR : R ≤ 140737488351232) {w0 : World} {x : S33} {cs : List Value} (h : k33.K w0 x cs) (hs : Small R n x) (t0 t1 t3 : Int) (t2 : Int) (t4 : Int) :
    ∃ b5 b6 : Bool, ∀ w, Below w0.heap.size w0 w → Calls Tryz.prog 13 #[.agg (#[.int .u32 t0, .int .u32 t1, .int .i8 t2, .int .u32 t3, .int .i64 t4] ++ cs.toArray)] w fun e w' => ∃ v, e = .returned v ∧ TxnLike v b5 b6 ∧ Below w.heap.size w w' := by
  obtain ⟨A2, c2, A3, c3, A9, c9, A10, c10, rfl, l2, g2, l3, g3, l9, g9, l10, g10⟩ := k33_open h
  obtain ⟨k, ⟨r1, r2, r3, r4, r5, r6, r7, r8, r9, r10, r11⟩, e⟩ := request_ends hR n x hs
  refine ⟨r6, r7, fun w hb => ?_⟩
  refine (lagoonref00_CopyTxn.calls k t0 t1 t2 t3 t4 x.f0 x.f1 A2 c2 x.f2 A3 c3 x.f3 x.f4 x.f5 x.f6 x.f7 x.f8 A9 c9 x.f9 A10 c10 x.f10 t0 t1 t2 t3 t4 r1 r2 r3 r4 r5 r6 r7 r8 r9 r10 r11 w (Kd.C_below g2 hb) l2 (Kd.C_below g3 hb) l3 (Kd.C_below g9 hb) l9 (Kd.C_below g10 hb) l10 (by simp only [lagoonref00_CopyTxn.f, e, Option.bind_some])).mono ?_
  rintro e w' ⟨v2, v3, v9, v10, rfl, q2, q3, q9, q10, hbel⟩
  exact ⟨_, rfl, ⟨_, _, _, _, _, _, _, _, _, _, _, _, _, _, rfl, rfl, rfl, rfl, rfl, rfl, rfl, rfl, R_opq q2, R_opq q3, rfl, rfl, rfl, R_opq q9, R_opq q10⟩, hbel⟩
end Go.Proofs.YtffmfjkfjpblaaaGreatDoor.PZtreeNil
