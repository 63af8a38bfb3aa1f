/-
  The abstract machine's operations are the program's: append and copy, len and cap.
-/
import Derived.Test.YtnbhpnnjmfeafaaAmOps5
namespace Go.Abs
set_option linter.unusedVariables false
set_option linter.unusedSimpArgs false
set_option linter.unusedSectionVars false

section
variable {P : Program} {E : Env} {pr : Nat → Prop} {w0 : World} {ng : Nat} {ι : Ren} {μ : Hp} {w : World} (hE : EnvOk P E)
include hE

/-- What an append that makes a new row comes to. -/
theorem run_append_new {t u ty e : TypeId} {i : TypeInfo} {ud : TypeDesc} {z : Value} (ht : E.und t = some (.slice e)) (hu : E.und u = some ud) (hni : isInt ud = false) (hi : E.info e = some i) (hz : zeroA E e = some z)
    (base : Option Addr) (len cap n : Nat) (x : Value) (olds news : Array Value) (hn : (Builtin.lenOf x).run P w = .ok n w)
    (ho : (Builtin.firstCells i.size len (.slice base len cap)).run P w.drew = .ok olds w.drew) (hx : (Builtin.firstCells i.size n x).run P w.drew = .ok news w.drew)
    (hg : cap < len + n) (h62 : len + n ≤ 4611686018427387904) (hb : (len + n) * i.bytes ≤ 140737488355328) :
    (Builtin.append_ #[t, u] ty #[.slice base len cap, x]).run P w =
      .ok (.slice (some ⟨w.heap.size, 0, none⟩) (len + n) (grownCap w (len + n) cap e)) (w.drew.alloc (.cells (olds ++ news ++ Builtin.zeroCells z.cells (grownCap w (len + n) cap e - (len + n))) e)) := by
  have hr : ¬ (len + n ≤ cap) := by omega
  have hm : ¬ (((len + n : Nat) : Int) > IntKind.i64.max ∧ i.bytes = 0) := by
    rw [IntKind.max_i64]; omega
  have hfit := growslice_fits (bytes := i.bytes) hg hb
  have hfit' : ¬ (Builtin.nextslicecap (len + n) cap * i.bytes > 2 ^ 48) := by
    rw [show (2 : Nat) ^ 48 = 281474976710656 by decide]; omega
  have hs : E.size e = some i.size := by simp [Env.size, hi]
  unfold Builtin.append_
  simp only [List.getElem?_toArray, List.getElem?_cons_zero, List.getElem?_cons_succ, Sem.run_bind, hE.run_und ht, hE.run_und hu, Result.andThen_ok, hE.run_size hs, Sem.run_pure]
  cases ud <;> simp only [isInt, reduceCtorEq] at hni <;>
    simp only [Bool.false_eq_true, if_false, hn, Result.andThen_ok, if_neg hr, Bool.not_false, if_true, Sem.run_bind, Sem.run_pure, Sem.run_ite, hE.run_info hi, run_choose, Question.forced, run_askRoom, ho, hx, (hE.run_zero hz _).1, newRow, run_newObj, World.drew_eq, World.alloc_eq, World.size_drew, false_or, if_neg hm, if_neg hfit'] <;> rfl

/-- What an append in place comes to. -/
theorem run_append_in {t u ty e : TypeId} {s : Nat} {ud : TypeDesc} (ht : E.und t = some (.slice e)) (hu : E.und u = some ud) (hni : isInt ud = false) (hs : E.size e = some s)
    (a : Addr) (len cap n : Nat) (x : Value) (news : Array Value) {w' : World} (hn : (Builtin.lenOf x).run P w = .ok n w) (hx : (Builtin.firstCells s n x).run P w = .ok news w)
    (hr : len + n ≤ cap) (hst : (storeCells (a.add (len * s)) news.toList).run P w = .ok () w') :
    (Builtin.append_ #[t, u] ty #[.slice (some a) len cap, x]).run P w = .ok (.slice (some a) (len + n) cap) w' := by
  unfold Builtin.append_
  simp only [List.getElem?_toArray, List.getElem?_cons_zero, List.getElem?_cons_succ, Sem.run_bind, hE.run_und ht, hE.run_und hu, Result.andThen_ok, hE.run_size hs, Sem.run_pure]
  cases ud <;> simp only [isInt, reduceCtorEq] at hni <;>
    simp only [Bool.false_eq_true, if_false, hn, Result.andThen_ok, if_pos hr, Bool.not_false, if_true, Sem.run_bind, Sem.run_pure, Sem.run_ite, hx, hst]
theorem run_append_nil0 {t u ty e : TypeId} {s : Nat} {ud : TypeDesc} (ht : E.und t = some (.slice e)) (hu : E.und u = some ud) (hni : isInt ud = false) (hs : E.size e = some s)
    (x : Value) (news : Array Value) (hn : (Builtin.lenOf x).run P w = .ok 0 w) (hx : (Builtin.firstCells s 0 x).run P w = .ok news w) :
    (Builtin.append_ #[t, u] ty #[.slice none 0 0, x]).run P w = .ok (.slice none 0 0) w := by
  unfold Builtin.append_
  simp only [List.getElem?_toArray, List.getElem?_cons_zero, List.getElem?_cons_succ, Sem.run_bind, hE.run_und ht, hE.run_und hu, Result.andThen_ok, hE.run_size hs, Sem.run_pure]
  cases ud <;> simp only [isInt, reduceCtorEq] at hni <;>
    simp only [Bool.false_eq_true, if_false, hn, Result.andThen_ok, Nat.add_zero, Nat.le_refl, Bool.not_false, if_true, Sem.run_bind, Sem.run_pure, Sem.run_ite, hx]

omit hE in
theorem caps (n : Nat) : capOf (2 * n + 1) = n ∧ capOpen (2 * n + 1) = true ∧ capOf (2 * n) = n ∧ capOpen (2 * n) = false := by
  unfold capOf capOpen
  refine ⟨by omega, ?_, by omega, beq_no (by omega)⟩
  rw [show (2 * n + 1) % 2 = 1 by omega]
  rfl

omit hE in
theorem first_get {s n : Nat} {a : Addr} {l c : Nat} {xs : List Value} (h : firstA s n (.slice (some a) l c) μ = some xs) {i : Nat} {v : Value} (hi : xs[i]? = some v) :
    ∃ vs, μ.cells a.block = some vs ∧ vs[a.off + i]? = some v := by
  unfold firstA at h
  simp only at h
  split at h
  · simp at h; subst h; simp at hi
  · split at h
    · rename_i k _ _ vs hsp hc
      cases hl : Nat.beq ((vs.drop a.off).take ((k + 1) * s)).length ((k + 1) * s) with
      | false => simp only [hl, cond_false] at h; cases h
      | true =>
        simp only [hl, cond_true, Option.some.injEq] at h
        subst h
        rw [List.getElem?_take] at hi
        split at hi
        · rw [List.getElem?_drop] at hi; exact ⟨vs, hc, hi⟩
        · cases hi
    · cases h

theorem grow_ok (hS : Sim pr w0 ng ι μ w) {t u ty e : TypeId} {ud : TypeDesc} (ht : E.und t = some (.slice e)) (hu : E.und u = some ud) (hni : isInt ud = false)
    {base : Option Addr} {len cap n s : Nat} {x v : Value} {old new : List Value} {μ' : Hp} (hs : E.size e = some s) (hn : lenA x = some n) (hnew : firstA s n x μ = some new) (hbx : Bd μ.next x)
    (hbase : match base with | none => len = 0 ∧ cap = 0 ∧ old = [] ∧ 0 < n | some a => firstA s len (.slice (some a) len cap) μ = some old ∧ a.block < μ.next ∧ capOf cap < len + n)
    (h : growA E e base len cap n old new μ = some (v, μ')) :
    Val P pr w0 ng ι μ w (Builtin.append_ #[t, u] ty #[conc ι (.slice base len cap), conc ι x]) v μ' := by
  unfold growA at h
  cases hi : E.info e with
  | none => simp [hi] at h
  | some i =>
    simp only [hi] at h
    have his : i.size = s := by simp [Env.size, hi] at hs; exact hs
    subst his
    cases hck : (Nat.ble ((len + n) * i.bytes) 140737488355328 && Nat.blt 0 i.size && Nat.ble (len + n) 4611686018427387904 && Nat.beq old.length (len * i.size) && Nat.beq new.length (n * i.size) && new.all one && (zeroA E e).any fun z => Nat.beq z.cells.size i.size) with
    | false => simp [hck] at h
    | true =>
      simp only [hck, cond_true] at h
      simp only [Bool.and_eq_true, Option.any_eq_true] at hck
      obtain ⟨⟨⟨⟨⟨⟨g1, g2⟩, g3⟩, g4⟩, g5⟩, g6⟩, z, hz, g7⟩ := hck
      have g1 := Nat.le_of_ble_eq_true g1
      have g3 := Nat.le_of_ble_eq_true g3
      have g4 := beq_yes g4
      have g5 := beq_yes g5
      have g7 := beq_yes g7
      cases hop : openA base cap i.size μ with
      | none => simp [hop] at h
      | some μ1 =>
        simp only [hop] at h
        cases hnw : μ1.new (.cells (old ++ new) i.size) with
        | none => simp [hnw] at h
        | some q =>
          obtain ⟨k, μ2⟩ := q
          simp only [hnw, Option.some.injEq, Prod.mk.injEq] at h
          obtain ⟨rfl, rfl⟩ := h
          have hlen := len_ok (P := P) (ι := ι) hn w
          have hfn := fun w' hw => first_ok (P := P) (w' := w') hS hnew hbx hw
          -- a new row
          have grown : ∀ (capR : Nat) (hcap : capR < len + n), (conc ι (.slice base len cap) = .slice (base.map ι.addr) len capR) → (Builtin.firstCells i.size len (.slice (base.map ι.addr) len capR)).run P w.drew = .ok (old.map (conc ι)).toArray w.drew →
              Sim pr w0 ng ι μ1 w → μ1.next = μ.next → (∀ y ∈ old, Bd μ.next y) →
              Val P pr w0 ng ι μ w (Builtin.append_ #[t, u] ty #[conc ι (.slice base len cap), conc ι x]) (.slice (some ⟨k, 0, none⟩) (len + n) (2 * (len + n) + 1)) μ2 := by
            intro capR hcap hcv ho hS1 hnx1 hbo
            have hx := (hfn w.drew (fun _ => rfl)).1
            have hrun := run_append_new hE (ty := ty) ht hu hni hi hz (base.map ι.addr) len capR n (conc ι x) _ _ hlen ho hx hcap g3 g1
            have hge : len + n ≤ grownCap w (len + n) capR e := grownCap_ge w _ _ _
            obtain ⟨hS', hxt, hnx, rfl⟩ := newCells_ok hS1.drew hnw (fun y hy => by
              rw [hnx1]
              rcases List.mem_append.1 hy with hy | hy
              · exact hbo y hy
              · exact (hfn w (fun _ => rfl)).2 y hy) e (Builtin.zeroCells z.cells (grownCap w (len + n) capR e - (len + n))).toList (grownCap w (len + n) capR e - (len + n)) (by
              simp only [Array.length_toList, size_zeroCells, g7]; exact Nat.le_refl _)
            refine ⟨_, _, ?_, hS', hxt.mono (by omega), by omega, by simp [hnx]⟩
            rw [hcv, hrun]
            obtain ⟨c1, c2, _, _⟩ := caps (len + n)
            simp only [conc_slice, Ren.addr, Ren.cap, Ren.upd, if_true, Nat.zero_add, c1, c2, cond_true, World.size_drew]
            rw [show len + n + (grownCap w (len + n) capR e - (len + n)) = grownCap w (len + n) capR e by omega]
            congr 3
            simp [List.map_append]
          cases base with
          | none =>
            simp [openA] at hop
            subst hop
            obtain ⟨rfl, rfl, rfl, hpos⟩ := hbase
            exact grown 0 (by omega) (by simp) (by simp [Builtin.firstCells]) hS rfl (by simp)
          | some a =>
            obtain ⟨hold, hab, hcl⟩ := hbase
            have hfo := fun w' hw => first_ok (P := P) (w' := w') hS hold (by simpa using hab) hw
            simp only [openA] at hop
            cases hco : capOpen cap with
            | false =>
              simp [hco] at hop
              subst hop
              refine grown (capOf cap) hcl (by simp [Ren.cap, hco]) ?_ hS rfl (hfo w (fun _ => rfl)).2
              have := (hfo w.drew (fun _ => rfl)).1
              simpa [Ren.cap, hco] using this
            | true =>
              simp only [hco] at hop
              obtain ⟨b, o, sp⟩ := a
              (try simp only at hop); (try simp only at hab); (try simp only at hold)
              cases sp with
              | some _ => simp at hop
              | none =>
                (try simp only at hop)
                cases hg : μ.get b with
                | none => simp [hg] at hop
                | some ob =>
                  cases ob with
                  | cells vs es =>
                    simp only [hg] at hop
                    cases hcc : (Nat.beq es i.size && Nat.beq (o + capOf cap * i.size) vs.length) with
                    | false => simp [hcc] at hop
                    | true =>
                      simp only [hcc, cond_true, Option.some.injEq] at hop
                      subst hop
                      simp only [Bool.and_eq_true] at hcc
                      have hes := beq_yes hcc.1
                      have hvl := beq_yes hcc.2
                      subst hes
                      have hkill := hS.kill hg
                      by_cases hroom : len + n ≤ capOf cap + ι.ext b
                      · -- in place
                        have hobj := hS.obj b _ hg
                        have hm := Nat.mul_le_mul_right i.size hroom
                        rw [Nat.add_mul, Nat.add_mul] at hm
                        obtain ⟨w', hr, hnc, hoc, hso, hf, hblk, hsz, e1, e2, e3, e4⟩ := run_storeCells (P := P) (ι.loc b).1 ((ι.loc b).2 + o + len * i.size) (new.map (conc ι)) 0 w (by
                            intro j hj
                            rw [List.length_map, g5] at hj
                            have := hobj.2 (o + len * i.size + j) (by omega)
                            rw [show (ι.loc b).2 + o + len * i.size + 0 + j = (ι.loc b).2 + (o + len * i.size + j) by omega]
                            exact this) (by
                            intro y hy
                            obtain ⟨y', hy', rfl⟩ := List.mem_map.1 hy
                            exact conc_one ι y' (List.all_eq_true.1 g6 y' hy'))
                        have hx := hfn w (fun _ => rfl)
                        have hrun := run_append_in hE (ty := ty) ht hu hni hs (ι.addr ⟨b, o, none⟩) len (capOf cap + ι.ext b) n (conc ι x) _ hlen hx.1 hroom (w' := w') (by
                          simp only [Ren.addr, addr_add]
                          simpa using hr)
                        have hk := (Hp.new_eq hnw).1
                        have hk' : k = μ.next := hk
                        subst hk'
                        obtain ⟨hS', hxt, hnx, _⟩ := hkill.newAt (l := ((ι.loc b).1, (ι.loc b).2 + o)) (e := capOf cap + ι.ext b - (len + n)) (w' := w') hnw e1 e2 e3 (by rw [hsz]; exact Nat.le_refl _)
                          (fun kk _ hne => hblk kk (hne rfl)) (fun _ => by rw [hsz]; exact hS.blk b _ hg rfl) (fun _ hlt => hS.free b _ hg rfl hlt)
                          (fun _ m o' hm hlv => by
                            by_cases hmb : m = b
                            · subst hmb
                              rw [get_put_same _ (Nat.lt_of_lt_of_le (hS.lt m _ hg) hS.lim)] at hm
                              cases hm; cases hlv
                            · rw [get_put_other _ (Ne.symm hmb)] at hm
                              exact hS.inj m b o' _ hm hg hlv rfl hmb) ⟨by
                            intro j y hy
                            simp only [Ren.upd, if_true]
                            rw [← Ren.upd]
                            by_cases hj : j < old.length
                            · rw [List.getElem?_append_left hj] at hy
                              obtain ⟨vs', hc', hv'⟩ := first_get hold hy
                              have hcell := hS.cell hc' hv'
                              simp only at hcell hv'
                              rw [Nat.add_assoc, hoc _ (.inl (by omega)), conc_ext (Ren.upd_ext _ _ _ _) y hcell.2]
                              exact ⟨hcell.1, Bd.mono (by rw [(Hp.new_eq hnw).2.2]; simp only [Hp.put]; omega) y hcell.2⟩
                            · rw [List.getElem?_append_right (by omega)] at hy
                              have hy' : (new.map (conc ι))[j - old.length]? = some (conc ι y) := by simp [hy]
                              have hby := hx.2 y (List.mem_of_getElem? hy)
                              have := hnc _ _ hy'
                              rw [show (ι.loc b).2 + o + len * i.size + 0 + (j - old.length) = (ι.loc b).2 + o + j by omega] at this
                              rw [conc_ext (Ren.upd_ext _ _ _ _) y hby]
                              exact ⟨this, Bd.mono (by rw [(Hp.new_eq hnw).2.2]; simp only [Hp.put]; omega) y hby⟩, by
                            intro j hj
                            simp only [Ren.upd, if_true, List.length_append, g4, g5, Nat.sub_mul, Nat.add_mul] at hj ⊢
                            rw [hso, hf, Nat.add_assoc]
                            exact hobj.2 (o + j) (by omega)⟩
                        refine ⟨_, w', ?_, hS', hxt.mono (by simp [Hp.put]), by rw [hnx]; simp [Hp.put], by simp [hnx, Hp.put]⟩
                        obtain ⟨c1, c2, _, _⟩ := caps (len + n)
                        simp only [conc_slice, Ren.cap, hco, cond_true, c1, c2] at hrun ⊢
                        rw [hrun]
                        simp only [Ren.addr, Ren.upd, Hp.put, if_true, Nat.add_zero]
                        congr 2
                        omega
                      · refine grown (capOf cap + ι.ext b) (by omega) (by simp [Ren.cap, hco]) ?_ hkill rfl (hfo w (fun _ => rfl)).2
                        have := (hfo w.drew (fun _ => rfl)).1
                        simpa [Ren.cap, hco] using this
                  | _ => simp [hg] at hop
end
end Go.Abs
