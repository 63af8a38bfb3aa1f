/-
  What the listed variables give the walk; how a packet's cells look.
-/
import Derived.Test.YtffmfjkfjpblaaaGreatDoorZnMain
import Derived.Test.YtffmfjkfjpblaaaGreatDoorRows
import Derived.ProofKit
import Derived.LaidMore
import Derived.LaidSub
import Derived.Lay
import Derived.OpenShut
import Derived.ChangeOld
import Derived.Below
import Derived.Stop.Joined
namespace Go.Proofs.YtffmfjkfjpblaaaGreatDoor
open Go.ChangeShapes Go.WideShapes Go.ChangeAt Go.RowKit Go.Abs
set_option linter.unusedVariables false

theorem int_table {P : Program} {W : World} {name : String} {g : Nat} {t e : TypeId} {n : Nat} {k : IntKind} (zs : List Int) (hn : P.globalNamed name = some g) (htt : (P.globals[g]?).map (·.type) = some t)
    (hu : P.underlying t = some (.array n e)) (he : P.underlying e = some (.int k)) (hc : P.cellsOf e = 1) (hlen : zs.length = n)
    (h : laidMetH P [(name, .agg (zs.map fun z => .lit (.int k z)))] W) (i : Nat) (u : Value) (hi : (zs.map (Value.int k))[i]? = some u) : g < W.heap.size ∧ W.cell? ⟨g, i, none⟩ = some u := by
  rw [MakeChecks.laidMetH_plain _ _ _ (by rfl)] at h
  obtain ⟨ps, ⟨g1, t1, cs, fuel, p, q, hg, ht, hv, hd, _, _⟩, _, _⟩ := h
  obtain rfl := Option.some.inj (hn.symm.trans hg)
  obtain rfl := Option.some.inj (htt.symm.trans ht)
  obtain ⟨xs, m, _, ex, _, hl, hel⟩ := DataW.trod_array hu hd
  rw [List.getElem?_map, Option.map_eq_some_iff] at hi
  obtain ⟨z0, hz0, rfl⟩ := hi
  have hil : i < zs.length := (List.getElem?_eq_some_iff.1 hz0).1
  have hE := hel i (by omega)
  rw [hc, Nat.mul_one, List.getElem?_eq_getElem (by omega)] at hE
  obtain ⟨z, e1, e2, _⟩ := DataW.trod_int he hE
  have e3 : (xs.map (·.1)) = zs.map fun n => .lit (.int k n) := (DataW.agg.inj (Prod.mk.inj ex).1).symm
  have e4 : (xs.map (·.1))[i]? = (zs.map fun n => (DataW.lit (.int k n) : DataW Unit))[i]? := by rw [e3]
  rw [List.getElem?_map, List.getElem?_map, List.getElem?_eq_getElem (by omega : i < xs.length), hz0, e2] at e4
  simp only [Option.map_some, Option.some.injEq, DataW.lit.injEq, Lit.int.injEq, true_and] at e4
  subst e4
  have hcell : W.cell? ⟨g, i, none⟩ = some (.int k z) := by
    rw [World.var?_cell hg hv i]
    have : cs.toList[i]? = some (.int k z) := by
      have h0 : ((cs.toList.drop i).take 1)[0]? = some (.int k z) := by rw [e1]; rfl
      simpa using h0
    simpa using this
  exact ⟨Go.block_lt_of_cell hcell, hcell⟩

theorem only_names : (Rows.ztreeNilRow.laid.filter fun x => x.1 == "lagoon/txn.names") = [("lagoon/txn.names", .agg (names0.map fun z => .lit (.int .u64 z)))] := by kernel_rfl
theorem glob_ok {W : World} (h : laidMetH Tryz.prog Rows.ztreeNilRow.laid W) : GlobOk W := by
  have h1 := h.filter fun x => x.1 == "lagoon/txn.names"
  rw [only_names] at h1
  exact ⟨fun i u hi => int_table (t := 163) (e := 136) (n := 13) names0 (by kernel_rfl) (by kernel_rfl) (by kernel_rfl) (by kernel_rfl) (by kernel_rfl) (by kernel_rfl) h1 i u hi⟩

/-! ### A packet's cells -/
section
variable {P : Program} {w : World} {r : Reach} {base : Nat} {t u : TypeId} {v : Value} {cs : Array Value}
theorem okWide_row {fs : Array Field} (ht : P.underlying t = some (.struct fs)) (h : Value.okWide P w r base t v) : ∃ cs, v = .agg cs ∧ cs.size = P.cellsOf t ∧ Row.okWide P w r base t cs := by
  unfold Value.okWide at h; rw [ht] at h; exact h
theorem row_cell {ts : List TypeId} (h : Row.okWide P w r base t cs) (hts : P.cellTypes P.depth t = some ts) {i : Nat} (hv : cs[i]? = some v) (hu : ts[i % ts.length]? = some u) : Cell.okWide P w r base u v := by
  obtain ⟨ts', h1, _, h2⟩ := h
  obtain rfl := Option.some.inj (hts.symm.trans h1)
  obtain ⟨u', h3, h4⟩ := h2 i v hv
  obtain rfl := Option.some.inj (hu.symm.trans h3)
  exact h4
theorem cell_int {k : IntKind} (hu : P.underlying u = some (.int k)) (h : Cell.okWide P w r base u v) : okOpq v = true := by
  obtain ⟨n, rfl⟩ := okWide_int hu (show Value.okWide P w r base u v by unfold Value.okWide; rw [hu]; exact h)
  rfl
theorem cell_string (hu : P.underlying u = some .string) (h : Cell.okWide P w r base u v) : okOpq v = true := by
  obtain ⟨n, rfl⟩ := okWide_string hu (show Value.okWide P w r base u v by unfold Value.okWide; rw [hu]; exact h)
  rfl
theorem cell_slice {e : TypeId} (hu : P.underlying u = some (.slice e)) (h : Cell.okWide P w r base u v) : okOpq v = true := by
  obtain ⟨a, l, c, rfl⟩ := okWide_slice hu (show Value.okWide P w r base u v by unfold Value.okWide; rw [hu]; exact h)
  rfl
theorem cell_bool (hu : P.underlying u = some .bool) (h : Cell.okWide P w r base u v) : ∃ b, v = .bool b :=
  okWide_bool hu (show Value.okWide P w r base u v by unfold Value.okWide; rw [hu]; exact h)
end
end Go.Proofs.YtffmfjkfjpblaaaGreatDoor
