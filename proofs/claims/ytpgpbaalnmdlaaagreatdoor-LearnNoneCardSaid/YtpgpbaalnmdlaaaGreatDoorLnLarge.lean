/-
  'lagoonref00.Large' at what came in.
-/
import Derived.Test.YtpgpbaalnmdlaaaGreatDoorPLearnNonex5
import Derived.Test.YtpgpbaalnmdlaaaGreatDoorAmB
namespace Go.Proofs.YtpgpbaalnmdlaaaGreatDoor.PLearnNone
open Go.RowKit Go.Abs Go.Proofs.YtpgpbaalnmdlaaaGreatDoorW.PrintWords Go.Proofs.YtpgpbaalnmdlaaaGreatDoorW.PrintLast Go.Proofs.YtpgpbaalnmdlaaaGreatDoorW.PrintMore
set_option linter.unusedVariables false


section fit
variable {P : Program} {w : World} {n : Nat} {t : TypeId} {d : Deep} {v : Value}
theorem fit_int {k : IntKind} (ht : P.underlying t = some (.int k)) (hf : FitD P n t [d]) (hh : DeepOk (fun _ => True) w d v) : ∃ i, v = .int k i := by
  cases n with
  | zero => exact hf.elim
  | succ n =>
    unfold FitD at hf; rw [ht] at hf
    obtain ⟨i, hd, _⟩ := hf
    simp only [List.cons.injEq, and_true] at hd; subst hd
    rw [deepOk_val] at hh
    exact ⟨i, hh.1⟩
theorem fit_intL {k : IntKind} {ds : List Deep} (ht : P.underlying t = some (.int k)) (hf : FitD P n t ds) : ∃ i, ds = [.val (.int k i)] := by
  cases n with
  | zero => exact hf.elim
  | succ n =>
    unfold FitD at hf; rw [ht] at hf
    obtain ⟨i, hd, _⟩ := hf
    exact ⟨i, hd⟩
theorem fit_bool (ht : P.underlying t = some .bool) (hf : FitD P n t [d]) (hh : DeepOk (fun _ => True) w d v) : ∃ b, v = .bool b := by
  cases n with
  | zero => exact hf.elim
  | succ n =>
    unfold FitD at hf; rw [ht] at hf
    obtain ⟨i, hd⟩ := hf
    simp only [List.cons.injEq, and_true] at hd; subst hd
    rw [deepOk_val] at hh
    exact ⟨i, hh.1⟩
theorem fit_string (ht : P.underlying t = some .string) (hf : FitD P n t [d]) (hh : DeepOk (fun _ => True) w d v) : ∃ s, v = .string s := by
  cases n with
  | zero => exact hf.elim
  | succ n =>
    unfold FitD at hf; rw [ht] at hf
    obtain ⟨i, hd, _⟩ := hf
    simp only [List.cons.injEq, and_true] at hd; subst hd
    rw [deepOk_val] at hh
    exact ⟨i, hh.1⟩
theorem fit_field {ds : List Deep} {fs : Array Field} (ht : P.underlying t = some (.struct fs)) (hf : FitD P n t ds) : ∃ m, n = m + 1 ∧ ds.length = P.cellsOf t ∧ ∀ (i : Nat) (f : Field), fs[i]? = some f → FitD P m f.type ((ds.drop f.offset).take (P.cellsOf f.type)) := by
  cases n with
  | zero => exact hf.elim
  | succ n =>
    unfold FitD at hf; rw [ht] at hf
    exact ⟨n, rfl, hf.1, hf.2⟩
theorem fit_part {ds : List Deep} {fs : Array Field} {m : Nat} (h : ∀ (i : Nat) (f : Field), fs[i]? = some f → FitD P m f.type ((ds.drop f.offset).take (P.cellsOf f.type))) {i : Nat} {f : Field} (hf : fs[i]? = some f) {u : TypeId} (hu : f.type = u) {c : Nat} (hc : P.cellsOf u = c) :
    FitD P m u ((ds.drop f.offset).take c) := by
  subst hu; subst hc
  exact h i f hf
theorem fit_row {α : Type} (z : α) (D : Kd α) {e : TypeId} (ht : P.underlying t = some (.slice e)) (hsz : D.sz = P.cellsOf e) (hf : FitD P n t [d]) (hh : DeepOk (fun _ => True) w d v)
    (he : ∀ m ds cs, m < n → FitD P m e ds → Hold w ds cs → ∃ x, D.K w x cs) : ∃ A c xs, v = .slice A (List.length xs) c ∧ List.length xs ≤ c ∧ D.C w A (List.length xs) xs := by
  cases n with
  | zero => exact hf.elim
  | succ n =>
    unfold FitD at hf; rw [ht] at hf
    rcases hf with hd | ⟨sp, hd⟩ | ⟨es, len, cap, hd, hle, hpos, hmax, hlen, hel⟩
    · simp only [List.cons.injEq, and_true] at hd; subst hd
      rw [deepOk_val] at hh
      exact ⟨none, 0, [], hh.1, Nat.le_refl _, rfl, by simp, fun h => by simp at h⟩
    · simp only [List.cons.injEq, and_true] at hd; subst hd
      rw [deepOk_void] at hh
      obtain ⟨b, o, rfl⟩ := hh
      exact ⟨some ⟨b, o, sp⟩, 0, [], rfl, Nat.le_refl _, rfl, by simp, fun h => by simp at h⟩
    · simp only [List.cons.injEq, and_true] at hd; subst hd
      rw [deepOk_row] at hh
      obtain ⟨b, o, rfl, hc⟩ := hh
      have each : ∀ i, ∃ x : α, i < cap → ∃ c : List Value, c.length = D.sz ∧ D.K w x c ∧ ∀ j u, c[j]? = some u → w.cell? ((⟨b, o, none⟩ : Addr).add (i * D.sz + j)) = some u := by
        intro i
        by_cases hi : i < cap
        · have hmul : i * P.cellsOf e + P.cellsOf e ≤ es.length := by
            rw [hlen, ← Nat.succ_mul]
            exact Nat.mul_le_mul_right _ hi
          have heach : ∀ j, ∃ u, j < P.cellsOf e → w.cell? ⟨b, o + (i * P.cellsOf e + j), none⟩ = some u ∧ ∃ (h : i * P.cellsOf e + j < es.length), DeepOk (fun _ => True) w es[i * P.cellsOf e + j] u := by
            intro j
            by_cases hj : j < P.cellsOf e
            · have hlt : i * P.cellsOf e + j < es.length := by omega
              obtain ⟨_, _, u, h1, h2⟩ := hc _ hlt
              exact ⟨u, fun _ => ⟨h1, hlt, h2⟩⟩
            · exact ⟨.nilFunc, fun h => absurd h hj⟩
          obtain ⟨f, hf⟩ := Classical.axiomOfChoice heach
          have hh : Hold w ((es.drop (i * P.cellsOf e)).take (P.cellsOf e)) ((List.range (P.cellsOf e)).map f) := by
            refine ⟨by simp; omega, fun j d u hd hu => ?_⟩
            have hj : j < P.cellsOf e := by
              have := (List.getElem?_eq_some_iff.1 hd).1
              simp at this; omega
            obtain ⟨h1, hlt, h2⟩ := hf j hj
            rw [List.getElem?_take_of_lt hj, List.getElem?_drop, List.getElem?_eq_getElem hlt] at hd
            rw [List.getElem?_map, List.getElem?_range hj] at hu
            simp at hd hu
            subst hd; subst hu
            exact h2
          obtain ⟨x, hx⟩ := he n _ _ (Nat.lt_succ_self _) (hel i hi) hh
          refine ⟨x, fun _ => ⟨_, D.K_len hx, hx, fun j u hu => ?_⟩⟩
          have hj : j < P.cellsOf e := by
            have := (List.getElem?_eq_some_iff.1 hu).1
            simpa using this
          obtain ⟨h1, _⟩ := hf j hj
          rw [List.getElem?_map, List.getElem?_range hj] at hu
          simp at hu; subst hu
          rw [hsz, Abs.addr_add]
          exact h1
        · exact ⟨z, fun h => absurd h hi⟩
      obtain ⟨f, hf⟩ := Classical.axiomOfChoice each
      refine ⟨some ⟨b, o, none⟩, cap, (List.range len).map f, by simp, by simpa using hle, rfl, by simp; unfold maxLen at hmax; omega, fun _ => ⟨_, rfl, fun j p hj => ?_⟩⟩
      have hlt : j < len := by
        have := (List.getElem?_eq_some_iff.1 hj).1
        simpa using this
      rw [List.getElem?_map, List.getElem?_range hlt] at hj
      simp at hj; subst hj
      exact hf j (by omega)
end fit
theorem list2 {α : Type} : ∀ (l : List α), l.length = 2 → ∃ a0 a1, l = [a0, a1]
  | [a0, a1], _ => ⟨a0, a1, rfl⟩
theorem list3 {α : Type} : ∀ (l : List α), l.length = 3 → ∃ a0 a1 a2, l = [a0, a1, a2]
  | [a0, a1, a2], _ => ⟨a0, a1, a2, rfl⟩
theorem list11 {α : Type} : ∀ (l : List α), l.length = 11 → ∃ a0 a1 a2 a3 a4 a5 a6 a7 a8 a9 a10, l = [a0, a1, a2, a3, a4, a5, a6, a7, a8, a9, a10]
  | [a0, a1, a2, a3, a4, a5, a6, a7, a8, a9, a10], _ => ⟨a0, a1, a2, a3, a4, a5, a6, a7, a8, a9, a10, rfl⟩
theorem cells2 : Tryz.prog.cellsOf 2 = 1 := by kernel_rfl
theorem cells4 : Tryz.prog.cellsOf 4 = 1 := by kernel_rfl
theorem cells9 : Tryz.prog.cellsOf 9 = 1 := by kernel_rfl
theorem cells21 : Tryz.prog.cellsOf 21 = 1 := by kernel_rfl
theorem cells22 : Tryz.prog.cellsOf 22 = 1 := by kernel_rfl
theorem cells30 : Tryz.prog.cellsOf 30 = 1 := by kernel_rfl
theorem cells31 : Tryz.prog.cellsOf 31 = 1 := by kernel_rfl
theorem cells32 : Tryz.prog.cellsOf 32 = 1 := by kernel_rfl
theorem cells33 : Tryz.prog.cellsOf 33 = 1 := by kernel_rfl
theorem cells5 : Tryz.prog.cellsOf 5 = 1 := by kernel_rfl
theorem cells35 : Tryz.prog.cellsOf 35 = 11 := by kernel_rfl
theorem cells111 : Tryz.prog.cellsOf 111 = 2 := by kernel_rfl
theorem cells113 : Tryz.prog.cellsOf 113 = 3 := by kernel_rfl

theorem hold_tail {w : World} {ds : List Deep} {cs : List Value} (h : Hold w ds cs) (o c : Nat) : Hold w ((ds.drop o).take c) ((cs.drop o).take c) := by
  refine ⟨by simp [h.1], fun i d v hd hv => ?_⟩
  by_cases hi : i < c
  · rw [List.getElem?_take_of_lt hi, List.getElem?_drop] at hd hv
    exact h.2 _ d v hd hv
  · rw [List.getElem?_eq_none (by simp; omega)] at hd; cases hd
theorem hold_at {w : World} {ds : List Deep} {cs : List Value} (h : Hold w ds cs) {i : Nat} {d : Deep} {v : Value} (hd : ds[i]? = some d) (hv : cs[i]? = some v) : DeepOk (fun _ => True) w d v := h.2 i d v hd hv

theorem fit_byte {w : World} {n : Nat} {ds : List Deep} {cs : List Value} (hf : FitD Tryz.prog n 5 ds) (hh : Hold w ds cs) : ∃ x, (Kd.int .u8).K w x cs := by
  obtain ⟨i, rfl⟩ := fit_intL Tryz.underlying5 hf
  have hl := hh.1
  match cs, hl with
  | [v], _ =>
    have := hold_at hh (i := 0) rfl rfl
    rw [deepOk_val] at this
    obtain ⟨rfl, _⟩ := this
    exact ⟨i, rfl⟩
theorem fit111 {w : World} {n : Nat} {ds : List Deep} {cs : List Value} (hf : FitD Tryz.prog n 111 ds) (hh : Hold w ds cs) : ∃ x, k111.K w x cs := by
  obtain ⟨m, rfl, hl, hfs⟩ := fit_field Tryz.underlying111 hf
  rw [cells111] at hl
  obtain ⟨d0, d1, rfl⟩ := list2 ds hl
  obtain ⟨v0, v1, rfl⟩ := list2 cs (by rw [← hh.1, hl])
  have h0 : FitD Tryz.prog m 9 [d0] := fit_part hfs (i := 0) rfl rfl cells9
  have h1 : FitD Tryz.prog m 9 [d1] := fit_part hfs (i := 1) rfl rfl cells9
  obtain ⟨s0, rfl⟩ := fit_string Tryz.underlying9 h0 (hold_at hh (i := 0) rfl rfl)
  obtain ⟨s1, rfl⟩ := fit_string Tryz.underlying9 h1 (hold_at hh (i := 1) rfl rfl)
  exact ⟨⟨s0, s1⟩, k111_mk w ⟨s0, s1⟩⟩
theorem fit113 {w : World} {n : Nat} {ds : List Deep} {cs : List Value} (hf : FitD Tryz.prog n 113 ds) (hh : Hold w ds cs) : ∃ x, k113.K w x cs := by
  obtain ⟨m, rfl, hl, hfs⟩ := fit_field Tryz.underlying113 hf
  rw [cells113] at hl
  obtain ⟨d0, d1, d2, rfl⟩ := list3 ds hl
  obtain ⟨v0, v1, v2, rfl⟩ := list3 cs (by rw [← hh.1, hl])
  have h0 : FitD Tryz.prog m 22 [d0] := fit_part hfs (i := 0) rfl rfl cells22
  have h1 : FitD Tryz.prog m 111 [d1, d2] := fit_part hfs (i := 1) rfl rfl cells111
  obtain ⟨i0, rfl⟩ := fit_int Tryz.underlying22 h0 (hold_at hh (i := 0) rfl rfl)
  have hh1 : Hold w [d1, d2] [v1, v2] := hold_tail hh 1 2
  obtain ⟨x, hx⟩ := fit111 h1 hh1
  have hx2 := k111_open hx
  simp only [List.cons.injEq, and_true] at hx2
  obtain ⟨rfl, rfl⟩ := hx2
  exact ⟨⟨i0, x⟩, k113_mk w ⟨i0, x⟩⟩
theorem fit35 {w : World} : ∀ {n : Nat} {ds : List Deep} {cs : List Value}, FitD Tryz.prog n 35 ds → Hold w ds cs → ∃ x, k35.K w x cs := by
  intro n
  induction n using Nat.strongRecOn with
  | ind n ih =>
    intro ds cs hf hh
    obtain ⟨m, rfl, hl, hfs⟩ := fit_field Tryz.underlying35 hf
    rw [cells35] at hl
    obtain ⟨d0, d1, d2, d3, d4, d5, d6, d7, d8, d9, d10, rfl⟩ := list11 ds hl
    obtain ⟨v0, v1, v2, v3, v4, v5, v6, v7, v8, v9, v10, rfl⟩ := list11 cs (by rw [← hh.1, hl])
    have h0 : FitD Tryz.prog m 22 [d0] := fit_part hfs (i := 0) rfl rfl cells22
    have h1 : FitD Tryz.prog m 9 [d1] := fit_part hfs (i := 1) rfl rfl cells9
    have h2 : FitD Tryz.prog m 30 [d2] := fit_part hfs (i := 2) rfl rfl cells30
    have h3 : FitD Tryz.prog m 31 [d3] := fit_part hfs (i := 3) rfl rfl cells31
    have h4 : FitD Tryz.prog m 21 [d4] := fit_part hfs (i := 4) rfl rfl cells21
    have h5 : FitD Tryz.prog m 4 [d5] := fit_part hfs (i := 5) rfl rfl cells4
    have h6 : FitD Tryz.prog m 4 [d6] := fit_part hfs (i := 6) rfl rfl cells4
    have h7 : FitD Tryz.prog m 2 [d7] := fit_part hfs (i := 7) rfl rfl cells2
    have h8 : FitD Tryz.prog m 21 [d8] := fit_part hfs (i := 8) rfl rfl cells21
    have h9 : FitD Tryz.prog m 32 [d9] := fit_part hfs (i := 9) rfl rfl cells32
    have h10 : FitD Tryz.prog m 33 [d10] := fit_part hfs (i := 10) rfl rfl cells33
    obtain ⟨x0, rfl⟩ := fit_int Tryz.underlying22 h0 (hold_at hh (i := 0) rfl rfl)
    obtain ⟨x1, rfl⟩ := fit_string Tryz.underlying9 h1 (hold_at hh (i := 1) rfl rfl)
    obtain ⟨A2, c2, x2, rfl, l2, g2⟩ := fit_row (0 : Int) (Kd.int .u8) Tryz.underlying30 (by rw [cells5]; rfl) h2 (hold_at hh (i := 2) rfl rfl) (fun m ds cs _ hm hd => fit_byte hm hd)
    obtain ⟨A3, c3, x3, rfl, l3, g3⟩ := fit_row z113 k113 Tryz.underlying31 (by rw [cells113]; rfl) h3 (hold_at hh (i := 3) rfl rfl) (fun m ds cs _ hm hd => fit113 hm hd)
    obtain ⟨x4, rfl⟩ := fit_int Tryz.underlying21 h4 (hold_at hh (i := 4) rfl rfl)
    obtain ⟨x5, rfl⟩ := fit_bool Tryz.underlying4 h5 (hold_at hh (i := 5) rfl rfl)
    obtain ⟨x6, rfl⟩ := fit_bool Tryz.underlying4 h6 (hold_at hh (i := 6) rfl rfl)
    obtain ⟨x7, rfl⟩ := fit_int Tryz.underlying2 h7 (hold_at hh (i := 7) rfl rfl)
    obtain ⟨x8, rfl⟩ := fit_int Tryz.underlying21 h8 (hold_at hh (i := 8) rfl rfl)
    obtain ⟨A9, c9, x9, rfl, l9, g9⟩ := fit_row z111 k111 Tryz.underlying32 (by rw [cells111]; rfl) h9 (hold_at hh (i := 9) rfl rfl) (fun m ds cs _ hm hd => fit111 hm hd)
    obtain ⟨A10, c10, x10, rfl, l10, g10⟩ := fit_row z35 k35 Tryz.underlying33 (by rw [cells35]; rfl) h10 (hold_at hh (i := 10) rfl rfl) (fun m' ds cs hlt hm hd => ih m' (by omega) hm hd)
    exact ⟨⟨x0, x1, x2, x3, x4, x5, x6, x7, x8, x9, x10⟩, k35_mk w ⟨x0, x1, x2, x3, x4, x5, x6, x7, x8, x9, x10⟩ l2 g2 l3 g3 l9 g9 l10 g10⟩

end Go.Proofs.YtpgpbaalnmdlaaaGreatDoor.PLearnNone
