/-
  'lagoonref00.Large' at what came in.
-/
import Derived.Test.YtffmfjkfjpblaaaGreatDoorPZtreeNilx12
import Derived.Test.YtffmfjkfjpblaaaGreatDoorAmB
namespace Go.Proofs.YtffmfjkfjpblaaaGreatDoor.PZtreeNil
open Go.RowKit Go.Abs Go.Proofs.YtffmfjkfjpblaaaGreatDoorW.PrintWords Go.Proofs.YtffmfjkfjpblaaaGreatDoorW.PrintLast Go.Proofs.YtffmfjkfjpblaaaGreatDoorW.PrintMore
set_option linter.unusedVariables false


section fit
variable {P : Program} {w : World} {R : Nat} {n : Nat} {t : TypeId} {d : Deep} {v : Value}
theorem fit_int {k : IntKind} (ht : P.underlying t = some (.int k)) (hf : FitD P R n t [d]) (hh : DeepOk (fun _ => True) w d v) : ∃ i, v = .int k i := by
  cases n with
  | zero => exact hf.elim
  | succ n =>
    unfold FitD at hf; rw [ht] at hf
    obtain ⟨i, hd, _⟩ := hf
    simp only [List.cons.injEq, and_true] at hd; subst hd
    rw [deepOk_val] at hh
    exact ⟨i, hh.1⟩
theorem fit_intL {k : IntKind} {ds : List Deep} (ht : P.underlying t = some (.int k)) (hf : FitD P R n t ds) : ∃ i, ds = [.val (.int k i)] := by
  cases n with
  | zero => exact hf.elim
  | succ n =>
    unfold FitD at hf; rw [ht] at hf
    obtain ⟨i, hd, _⟩ := hf
    exact ⟨i, hd⟩
theorem fit_bool (ht : P.underlying t = some .bool) (hf : FitD P R n t [d]) (hh : DeepOk (fun _ => True) w d v) : ∃ b, v = .bool b := by
  cases n with
  | zero => exact hf.elim
  | succ n =>
    unfold FitD at hf; rw [ht] at hf
    obtain ⟨i, hd⟩ := hf
    simp only [List.cons.injEq, and_true] at hd; subst hd
    rw [deepOk_val] at hh
    exact ⟨i, hh.1⟩
theorem fit_string (ht : P.underlying t = some .string) (hf : FitD P R n t [d]) (hh : DeepOk (fun _ => True) w d v) : ∃ s, v = .string s := by
  cases n with
  | zero => exact hf.elim
  | succ n =>
    unfold FitD at hf; rw [ht] at hf
    obtain ⟨i, hd, _⟩ := hf
    simp only [List.cons.injEq, and_true] at hd; subst hd
    rw [deepOk_val] at hh
    exact ⟨i, hh.1⟩
theorem fit_field {ds : List Deep} {fs : Array Field} (ht : P.underlying t = some (.struct fs)) (hf : FitD P R n t ds) : ∃ m, n = m + 1 ∧ ds.length = P.cellsOf t ∧ ∀ (i : Nat) (f : Field), fs[i]? = some f → FitD P R m f.type ((ds.drop f.offset).take (P.cellsOf f.type)) := by
  cases n with
  | zero => exact hf.elim
  | succ n =>
    unfold FitD at hf; rw [ht] at hf
    exact ⟨n, rfl, hf.1, hf.2⟩
theorem fit_part {ds : List Deep} {fs : Array Field} {m : Nat} (h : ∀ (i : Nat) (f : Field), fs[i]? = some f → FitD P R m f.type ((ds.drop f.offset).take (P.cellsOf f.type))) {i : Nat} {f : Field} (hf : fs[i]? = some f) {u : TypeId} (hu : f.type = u) {c : Nat} (hc : P.cellsOf u = c) :
    FitD P R m u ((ds.drop f.offset).take c) := by
  subst hu; subst hc
  exact h i f hf
theorem fit_row {α : Type} (z : α) (D : Kd α) (Pd : Nat → α → Prop) {e : TypeId} (ht : P.underlying t = some (.slice e)) (hsz : D.sz = P.cellsOf e) (hf : FitD P R n t [d]) (hh : DeepOk (fun _ => True) w d v)
    (he : ∀ m ds cs, m < n → FitD P R m e ds → Hold w ds cs → ∃ x, D.K w x cs ∧ Pd m x) : ∃ A c xs m, v = .slice A (List.length xs) c ∧ List.length xs ≤ c ∧ D.C w A (List.length xs) xs ∧ List.length xs * P.bytesOf e ≤ R ∧ m < n ∧ ∀ x ∈ xs, Pd m x := by
  cases n with
  | zero => exact hf.elim
  | succ n =>
    unfold FitD at hf; rw [ht] at hf
    rcases hf with hd | ⟨sp, hd⟩ | ⟨es, len, cap, hd, hle, hpos, hmax, hRb, hlen, hel⟩
    · simp only [List.cons.injEq, and_true] at hd; subst hd
      rw [deepOk_val] at hh
      exact ⟨none, 0, [], n, hh.1, Nat.le_refl _, ⟨rfl, by simp, fun h => by simp at h⟩, by simp, Nat.lt_succ_self _, by simp⟩
    · simp only [List.cons.injEq, and_true] at hd; subst hd
      rw [deepOk_void] at hh
      obtain ⟨b, o, rfl⟩ := hh
      exact ⟨some ⟨b, o, sp⟩, 0, [], n, rfl, Nat.le_refl _, ⟨rfl, by simp, fun h => by simp at h⟩, by simp, Nat.lt_succ_self _, by simp⟩
    · simp only [List.cons.injEq, and_true] at hd; subst hd
      rw [deepOk_row] at hh
      obtain ⟨b, o, rfl, hc⟩ := hh
      have each : ∀ i, ∃ x : α, i < cap → Pd n x ∧ ∃ c : List Value, c.length = D.sz ∧ D.K w x c ∧ ∀ j u, c[j]? = some u → w.cell? ((⟨b, o, none⟩ : Addr).add (i * D.sz + j)) = some u := by
        intro i
        by_cases hi : i < cap
        · have hmul : i * P.cellsOf e + P.cellsOf e ≤ es.length := by
            rw [hlen, ← Nat.succ_mul]
            exact Nat.mul_le_mul_right _ hi
          have heach : ∀ j, ∃ u, j < P.cellsOf e → w.cell? ⟨b, o + (i * P.cellsOf e + j), none⟩ = some u ∧ ∃ (h : i * P.cellsOf e + j < es.length), DeepOk (fun _ => True) w es[i * P.cellsOf e + j] u := by
            intro j
            by_cases hj : j < P.cellsOf e
            · have hlt : i * P.cellsOf e + j < es.length := by omega
              obtain ⟨_, _, u, h1, h2⟩ := hc _ hlt
              exact ⟨u, fun _ => ⟨h1, hlt, h2⟩⟩
            · exact ⟨.nilFunc, fun h => absurd h hj⟩
          obtain ⟨f, hf⟩ := Classical.axiomOfChoice heach
          have hh : Hold w ((es.drop (i * P.cellsOf e)).take (P.cellsOf e)) ((List.range (P.cellsOf e)).map f) := by
            refine ⟨by simp; omega, fun j d u hd hu => ?_⟩
            have hj : j < P.cellsOf e := by
              have := (List.getElem?_eq_some_iff.1 hd).1
              simp at this; omega
            obtain ⟨h1, hlt, h2⟩ := hf j hj
            rw [List.getElem?_take_of_lt hj, List.getElem?_drop, List.getElem?_eq_getElem hlt] at hd
            rw [List.getElem?_map, List.getElem?_range hj] at hu
            simp at hd hu
            subst hd; subst hu
            exact h2
          obtain ⟨x, hx, hpd⟩ := he n _ _ (Nat.lt_succ_self _) (hel i hi) hh
          refine ⟨x, fun _ => ⟨hpd, _, D.K_len hx, hx, fun j u hu => ?_⟩⟩
          have hj : j < P.cellsOf e := by
            have := (List.getElem?_eq_some_iff.1 hu).1
            simpa using this
          obtain ⟨h1, _⟩ := hf j hj
          rw [List.getElem?_map, List.getElem?_range hj] at hu
          simp at hu; subst hu
          rw [hsz, Abs.addr_add]
          exact h1
        · exact ⟨z, fun h => absurd h hi⟩
      obtain ⟨f, hf⟩ := Classical.axiomOfChoice each
      refine ⟨some ⟨b, o, none⟩, cap, (List.range len).map f, n, by simp, by simpa using hle, ⟨rfl, by simp; unfold maxLen at hmax; omega, fun _ => ⟨_, rfl, fun j p hj => ?_⟩⟩, ?_, Nat.lt_succ_self _, ?_⟩
      rotate_left
      · simp only [List.length_map, List.length_range]
        exact Nat.le_trans (Nat.mul_le_mul_right _ hle) hRb
      · intro x hx
        obtain ⟨j, hj, rfl⟩ := List.mem_map.1 hx
        exact (hf j (by have := List.mem_range.1 hj; omega)).1
      have hlt : j < len := by
        have := (List.getElem?_eq_some_iff.1 hj).1
        simpa using this
      rw [List.getElem?_map, List.getElem?_range hlt] at hj
      simp at hj; subst hj
      exact (hf j (by omega)).2
end fit
theorem list2 {α : Type} : ∀ (l : List α), l.length = 2 → ∃ a0 a1, l = [a0, a1]
  | [a0, a1], _ => ⟨a0, a1, rfl⟩
theorem list3 {α : Type} : ∀ (l : List α), l.length = 3 → ∃ a0 a1 a2, l = [a0, a1, a2]
  | [a0, a1, a2], _ => ⟨a0, a1, a2, rfl⟩
theorem list11 {α : Type} : ∀ (l : List α), l.length = 11 → ∃ a0 a1 a2 a3 a4 a5 a6 a7 a8 a9 a10, l = [a0, a1, a2, a3, a4, a5, a6, a7, a8, a9, a10]
  | [a0, a1, a2, a3, a4, a5, a6, a7, a8, a9, a10], _ => ⟨a0, a1, a2, a3, a4, a5, a6, a7, a8, a9, a10, rfl⟩
theorem cells2 : Tryz.prog.cellsOf 2 = 1 := by kernel_rfl
theorem cells4 : Tryz.prog.cellsOf 4 = 1 := by kernel_rfl
theorem cells9 : Tryz.prog.cellsOf 9 = 1 := by kernel_rfl
theorem cells21 : Tryz.prog.cellsOf 21 = 1 := by kernel_rfl
theorem cells25 : Tryz.prog.cellsOf 25 = 1 := by kernel_rfl
theorem cells28 : Tryz.prog.cellsOf 28 = 1 := by kernel_rfl
theorem cells29 : Tryz.prog.cellsOf 29 = 1 := by kernel_rfl
theorem cells30 : Tryz.prog.cellsOf 30 = 1 := by kernel_rfl
theorem cells31 : Tryz.prog.cellsOf 31 = 1 := by kernel_rfl
theorem cells5 : Tryz.prog.cellsOf 5 = 1 := by kernel_rfl
theorem cells33 : Tryz.prog.cellsOf 33 = 11 := by kernel_rfl
theorem cells79 : Tryz.prog.cellsOf 79 = 2 := by kernel_rfl
theorem cells81 : Tryz.prog.cellsOf 81 = 3 := by kernel_rfl

theorem hold_tail {w : World} {ds : List Deep} {cs : List Value} (h : Hold w ds cs) (o c : Nat) : Hold w ((ds.drop o).take c) ((cs.drop o).take c) := by
  refine ⟨by simp [h.1], fun i d v hd hv => ?_⟩
  by_cases hi : i < c
  · rw [List.getElem?_take_of_lt hi, List.getElem?_drop] at hd hv
    exact h.2 _ d v hd hv
  · rw [List.getElem?_eq_none (by simp; omega)] at hd; cases hd
theorem hold_at {w : World} {ds : List Deep} {cs : List Value} (h : Hold w ds cs) {i : Nat} {d : Deep} {v : Value} (hd : ds[i]? = some d) (hv : cs[i]? = some v) : DeepOk (fun _ => True) w d v := h.2 i d v hd hv

theorem fit_byte {R : Nat} {w : World} {n : Nat} {ds : List Deep} {cs : List Value} (hf : FitD Tryz.prog R n 5 ds) (hh : Hold w ds cs) : ∃ x, (Kd.int .u8).K w x cs := by
  obtain ⟨i, rfl⟩ := fit_intL Tryz.underlying5 hf
  have hl := hh.1
  match cs, hl with
  | [v], _ =>
    have := hold_at hh (i := 0) rfl rfl
    rw [deepOk_val] at this
    obtain ⟨rfl, _⟩ := this
    exact ⟨i, rfl⟩
theorem fit79 {R : Nat} {w : World} {n : Nat} {ds : List Deep} {cs : List Value} (hf : FitD Tryz.prog R n 79 ds) (hh : Hold w ds cs) : ∃ x, k79.K w x cs := by
  obtain ⟨m, rfl, hl, hfs⟩ := fit_field Tryz.underlying79 hf
  rw [cells79] at hl
  obtain ⟨d0, d1, rfl⟩ := list2 ds hl
  obtain ⟨v0, v1, rfl⟩ := list2 cs (by rw [← hh.1, hl])
  have h0 : FitD Tryz.prog R m 9 [d0] := fit_part hfs (i := 0) rfl rfl cells9
  have h1 : FitD Tryz.prog R m 9 [d1] := fit_part hfs (i := 1) rfl rfl cells9
  obtain ⟨s0, rfl⟩ := fit_string Tryz.underlying9 h0 (hold_at hh (i := 0) rfl rfl)
  obtain ⟨s1, rfl⟩ := fit_string Tryz.underlying9 h1 (hold_at hh (i := 1) rfl rfl)
  exact ⟨⟨s0, s1⟩, k79_mk w ⟨s0, s1⟩⟩
theorem fit81 {R : Nat} {w : World} {n : Nat} {ds : List Deep} {cs : List Value} (hf : FitD Tryz.prog R n 81 ds) (hh : Hold w ds cs) : ∃ x, k81.K w x cs := by
  obtain ⟨m, rfl, hl, hfs⟩ := fit_field Tryz.underlying81 hf
  rw [cells81] at hl
  obtain ⟨d0, d1, d2, rfl⟩ := list3 ds hl
  obtain ⟨v0, v1, v2, rfl⟩ := list3 cs (by rw [← hh.1, hl])
  have h0 : FitD Tryz.prog R m 25 [d0] := fit_part hfs (i := 0) rfl rfl cells25
  have h1 : FitD Tryz.prog R m 79 [d1, d2] := fit_part hfs (i := 1) rfl rfl cells79
  obtain ⟨i0, rfl⟩ := fit_int Tryz.underlying25 h0 (hold_at hh (i := 0) rfl rfl)
  have hh1 : Hold w [d1, d2] [v1, v2] := hold_tail hh 1 2
  obtain ⟨x, hx⟩ := fit79 h1 hh1
  have hx2 := k79_open hx
  simp only [List.cons.injEq, and_true] at hx2
  obtain ⟨rfl, rfl⟩ := hx2
  exact ⟨⟨i0, x⟩, k81_mk w ⟨i0, x⟩⟩
theorem bytes5 : Tryz.prog.bytesOf 5 = 1 := by kernel_rfl
theorem bytes81 : Tryz.prog.bytesOf 81 = 40 := by kernel_rfl
theorem bytes79 : Tryz.prog.bytesOf 79 = 32 := by kernel_rfl
theorem bytes33 : Tryz.prog.bytesOf 33 = 144 := by kernel_rfl
/-- No list in it is longer than what memory holds. -/
def Small (R : Nat) : Nat → S33 → Prop
  | 0, _ => False
  | n + 1, x => x.f2.length * 1 ≤ R ∧ x.f3.length * 40 ≤ R ∧ x.f9.length * 32 ≤ R ∧ x.f10.length * 144 ≤ R ∧ ∀ y ∈ x.f10, Small R n y
theorem Small.mono {R : Nat} : ∀ {n m : Nat} {x : S33}, n ≤ m → Small R n x → Small R m x
  | 0, _, _, _, h => h.elim
  | n + 1, 0, _, hl, _ => by omega
  | n + 1, m + 1, x, hl, h => ⟨h.1, h.2.1, h.2.2.1, h.2.2.2.1, fun y hy => Small.mono (by omega) (h.2.2.2.2 y hy)⟩
theorem fit33 {w : World} {R : Nat} : ∀ {n : Nat} {ds : List Deep} {cs : List Value}, FitD Tryz.prog R n 33 ds → Hold w ds cs → ∃ x, k33.K w x cs ∧ Small R n x := by
  intro n
  induction n using Nat.strongRecOn with
  | ind n ih =>
    intro ds cs hf hh
    obtain ⟨m, rfl, hl, hfs⟩ := fit_field Tryz.underlying33 hf
    rw [cells33] at hl
    obtain ⟨d0, d1, d2, d3, d4, d5, d6, d7, d8, d9, d10, rfl⟩ := list11 ds hl
    obtain ⟨v0, v1, v2, v3, v4, v5, v6, v7, v8, v9, v10, rfl⟩ := list11 cs (by rw [← hh.1, hl])
    have h0 : FitD Tryz.prog R m 25 [d0] := fit_part hfs (i := 0) rfl rfl cells25
    have h1 : FitD Tryz.prog R m 9 [d1] := fit_part hfs (i := 1) rfl rfl cells9
    have h2 : FitD Tryz.prog R m 28 [d2] := fit_part hfs (i := 2) rfl rfl cells28
    have h3 : FitD Tryz.prog R m 29 [d3] := fit_part hfs (i := 3) rfl rfl cells29
    have h4 : FitD Tryz.prog R m 21 [d4] := fit_part hfs (i := 4) rfl rfl cells21
    have h5 : FitD Tryz.prog R m 4 [d5] := fit_part hfs (i := 5) rfl rfl cells4
    have h6 : FitD Tryz.prog R m 4 [d6] := fit_part hfs (i := 6) rfl rfl cells4
    have h7 : FitD Tryz.prog R m 2 [d7] := fit_part hfs (i := 7) rfl rfl cells2
    have h8 : FitD Tryz.prog R m 21 [d8] := fit_part hfs (i := 8) rfl rfl cells21
    have h9 : FitD Tryz.prog R m 30 [d9] := fit_part hfs (i := 9) rfl rfl cells30
    have h10 : FitD Tryz.prog R m 31 [d10] := fit_part hfs (i := 10) rfl rfl cells31
    obtain ⟨x0, rfl⟩ := fit_int Tryz.underlying25 h0 (hold_at hh (i := 0) rfl rfl)
    obtain ⟨x1, rfl⟩ := fit_string Tryz.underlying9 h1 (hold_at hh (i := 1) rfl rfl)
    obtain ⟨A2, c2, x2, _, rfl, l2, g2, b2, _, _⟩ := fit_row (0 : Int) (Kd.int .u8) (fun _ _ => True) Tryz.underlying28 (by rw [cells5]; rfl) h2 (hold_at hh (i := 2) rfl rfl) (fun m ds cs _ hm hd => (by obtain ⟨x, hx⟩ := fit_byte hm hd; exact ⟨x, hx, trivial⟩))
    obtain ⟨A3, c3, x3, _, rfl, l3, g3, b3, _, _⟩ := fit_row z81 k81 (fun _ _ => True) Tryz.underlying29 (by rw [cells81]; rfl) h3 (hold_at hh (i := 3) rfl rfl) (fun m ds cs _ hm hd => (by obtain ⟨x, hx⟩ := fit81 hm hd; exact ⟨x, hx, trivial⟩))
    obtain ⟨x4, rfl⟩ := fit_int Tryz.underlying21 h4 (hold_at hh (i := 4) rfl rfl)
    obtain ⟨x5, rfl⟩ := fit_bool Tryz.underlying4 h5 (hold_at hh (i := 5) rfl rfl)
    obtain ⟨x6, rfl⟩ := fit_bool Tryz.underlying4 h6 (hold_at hh (i := 6) rfl rfl)
    obtain ⟨x7, rfl⟩ := fit_int Tryz.underlying2 h7 (hold_at hh (i := 7) rfl rfl)
    obtain ⟨x8, rfl⟩ := fit_int Tryz.underlying21 h8 (hold_at hh (i := 8) rfl rfl)
    obtain ⟨A9, c9, x9, _, rfl, l9, g9, b9, _, _⟩ := fit_row z79 k79 (fun _ _ => True) Tryz.underlying30 (by rw [cells79]; rfl) h9 (hold_at hh (i := 9) rfl rfl) (fun m ds cs _ hm hd => (by obtain ⟨x, hx⟩ := fit79 hm hd; exact ⟨x, hx, trivial⟩))
    obtain ⟨A10, c10, x10, m10, rfl, l10, g10, b10, hm10, p10⟩ := fit_row z33 k33 (Small R) Tryz.underlying31 (by rw [cells33]; rfl) h10 (hold_at hh (i := 10) rfl rfl) (fun m' ds cs hlt hm hd => ih m' (by omega) hm hd)
    exact ⟨⟨x0, x1, x2, x3, x4, x5, x6, x7, x8, x9, x10⟩, k33_mk w ⟨x0, x1, x2, x3, x4, x5, x6, x7, x8, x9, x10⟩ l2 g2 l3 g3 l9 g9 l10 g10, bytes5 ▸ b2, bytes81 ▸ b3, bytes79 ▸ b9, bytes33 ▸ b10, fun y hy => (p10 y hy).mono (by omega)⟩

end Go.Proofs.YtffmfjkfjpblaaaGreatDoor.PZtreeNil
