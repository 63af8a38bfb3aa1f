/-
  The abstract machine's operations are the program's: append, copy, conversions of strings.
-/
import Derived.Test.YtnbhpnnjmfeafaaAmOps4
import Derived.Lib.Strings
namespace Go.Abs
set_option linter.unusedVariables false
set_option linter.unusedSimpArgs false
set_option linter.unusedSectionVars false

section
variable {P : Program} {E : Env} {pr : Nat → Prop} {w0 : World} {ng : Nat} {ι : Ren} {μ : Hp} {w : World}

theorem intList_conc (ι : Ren) (l : List UInt8) : (intList l).map (conc ι) = intList l := by
  unfold intList
  rw [List.map_map]
  exact List.map_congr_left fun b _ => by simp
theorem intList_bd (N : Nat) (l : List UInt8) : ∀ x ∈ intList l, Bd N x := by
  intro x hx
  obtain ⟨b, _, rfl⟩ := List.mem_map.1 hx
  simp

theorem first_ok (hS : Sim pr w0 ng ι μ w) {s n : Nat} {x : Value} {xs : List Value} (h : firstA s n x μ = some xs) (hb : Bd μ.next x) {w' : World} (hw : ∀ p, w'.cell? p = w.cell? p) :
    (Builtin.firstCells s n (conc ι x)).run P w' = .ok (xs.map (conc ι)).toArray w' ∧ ∀ y ∈ xs, Bd μ.next y := by
  unfold firstA at h
  split at h
  · simp at h; subst h; simp [Builtin.firstCells]
  · rename_i a l c
    split at h
    · simp at h; subst h; simp [Builtin.firstCells, loadCells, loadCellsFrom]
    · rename_i n
      split at h
      · rename_i vs hsp hc
        cases hl : Nat.beq ((vs.drop a.off).take ((n + 1) * s)).length ((n + 1) * s) with
        | false => simp only [hl, cond_false] at h; cases h
        | true =>
          simp only [hl, cond_true, Option.some.injEq] at h
          subst h
          have hlen := beq_yes hl
          obtain ⟨b, o, sp⟩ := a
          simp only at hsp hc hlen
          subst hsp
          have hr := run_loadCells' (P := P) (w := w') (ι.loc b).1 ((ι.loc b).2 + o) (((vs.drop o).take ((n + 1) * s)).map (conc ι)) (fun j x hx => by
            simp only [List.getElem?_map, Option.map_eq_some_iff] at hx
            obtain ⟨u, hu, rfl⟩ := hx
            rw [List.getElem?_take] at hu
            split at hu
            · rw [List.getElem?_drop] at hu
              rw [Nat.add_assoc, hw]
              exact (hS.cell hc hu).1
            · cases hu)
          rw [List.length_map, hlen] at hr
          refine ⟨?_, ?_⟩
          · simp only [Builtin.firstCells, conc_slice, Ren.addr, hr]
          · intro y hy
            obtain ⟨i, hi⟩ := List.getElem?_of_mem (List.mem_of_mem_drop (List.mem_of_mem_take hy))
            exact (hS.cell hc hi).2
      · cases h
  · rename_i b
    simp at h
    subst h
    refine ⟨?_, intList_bd _ _⟩
    rw [intList_conc]
    simp only [Builtin.firstCells, conc_string, Sem.run_pure]
    congr 1
    apply Array.ext'
    have : (b.extract 0 n).data.toList = b.data.toList.take n := by
      rw [Lib.extract_data]; simp
    simp [intList, this]
  · cases h
theorem first_zero {s : Nat} {x : Value} {xs : List Value} (h : firstA s 0 x μ = some xs) : xs = [] := by
  unfold firstA at h
  split at h <;> simp [intList] at h <;> simp [h]
theorem len_ok {x : Value} {n : Nat} (h : lenA x = some n) (w : World) : (Builtin.lenOf (conc ι x)).run P w = .ok n w := by
  unfold lenA at h
  split at h
  · rename_i a l c
    simp at h; subst h
    cases a <;> simp [Builtin.lenOf]
  · simp at h; subst h; simp [Builtin.lenOf]
  · cases h

theorem bytesOf_spec : ∀ {vs : List Value} {l : List UInt8}, bytesOf vs = some l → ∃ ns : List Int, vs = ns.map (Value.int .u8) ∧ l = ns.map fun n => UInt8.ofNat n.toNat
  | [], l, h => by simp [bytesOf] at h; subst h; exact ⟨[], rfl, rfl⟩
  | .int .u8 n :: r, l, h => by
    simp only [bytesOf, Option.map_eq_some_iff] at h
    obtain ⟨l', h', rfl⟩ := h
    obtain ⟨ns, rfl, rfl⟩ := bytesOf_spec h'
    exact ⟨n :: ns, rfl, rfl⟩
  | .int .i8 n :: r, l, h | .int .i16 n :: r, l, h | .int .i32 n :: r, l, h | .int .i64 n :: r, l, h | .int .u16 n :: r, l, h | .int .u32 n :: r, l, h | .int .u64 n :: r, l, h => by simp [bytesOf] at h
  | .bool _ :: _, l, h | .float _ _ :: _, l, h | .complex _ _ _ :: _, l, h | .string _ :: _, l, h | .pointer _ :: _, l, h | .slice _ _ _ :: _, l, h | .map _ :: _, l, h | .chan _ :: _, l, h | .func _ _ _ :: _, l, h | .nilFunc :: _, l, h | .iface _ _ :: _, l, h | .nilIface :: _, l, h | .agg _ :: _, l, h | .tuple _ :: _, l, h => by simp [bytesOf] at h

variable (hE : EnvOk P E)
include hE
theorem toString_ok (hS : Sim pr w0 ng ι μ w) {src dst e : TypeId} {a : Addr} {len c : Nat} {vs : List Value} {l : List UInt8} (hs : E.und src = some (.slice e)) (hd : E.und dst = some .string) (he : E.und e = some (.int .u8))
    (hf : firstA 1 len (.slice (some a) len c) μ = some vs) (hb : Bd μ.next (.slice (some a) len c)) (hl : bytesOf vs = some l) :
    (convert src dst (conc ι (.slice (some a) len c))).run P w = .ok (.string ⟨⟨l⟩⟩) w := by
  obtain ⟨ns, rfl, rfl⟩ := bytesOf_spec hl
  have h1 := (first_ok (P := P) hS hf hb (fun _ => rfl)).1
  have hc : (ns.map (Value.int .u8)).map (conc ι) = ns.map (Value.int .u8) := by
    rw [List.map_map]; exact List.map_congr_left fun b _ => by simp
  rw [hc] at h1
  simp only [conc_slice, Builtin.firstCells, Nat.mul_one] at h1 ⊢
  rw [run_convert_bytes_string w src dst e _ len _ (hE.und hs) (hE.und he) (hE.und hd), run_bytesToString w _ len _ ns h1, foldl_push_bytes]
  simp [ByteArray.empty, ByteArray.emptyWithCapacity]
  rfl

theorem toBytes_ok (hS : Sim pr w0 ng ι μ w) {src dst e : TypeId} {s : ByteArray} {d : TypeDesc} {n : Nat} {μ' : Hp} (hs : E.und src = some d) (hd : E.und dst = some (.slice e)) (he : E.und e = some (.int .u8))
    (hn : μ.new (.cells (intList s.data.toList) 1) = some (n, μ')) :
    Val P pr w0 ng ι μ w (convert src dst (.string s)) (.slice (some ⟨n, 0, none⟩) s.size (2 * s.size + 1)) μ' := by
  have hge : s.size ≤ grownCap w s.size 0 e := by simp [grownCap, Question.cut]
  let cap := grownCap w s.size 0 e
  let row : Array Value := s.data.map (fun b => .int .u8 b.toNat) ++ Array.replicate (cap - s.size) (.int .u8 0)
  let W : World := w.drew.alloc (.cells row e)
  have hk := (Hp.new_eq hn).1
  subst hk
  have hsz : row.size = cap := by
    have h1 : row.size = s.data.size + (cap - s.size) := by simp only [row, Array.size_append, Array.size_map, Array.size_replicate]
    have h2 : s.data.size = s.size := rfl
    have h3 : s.size ≤ cap := hge
    omega
  have hW0 : W.heap[w.heap.size]? = some (.cells row e (0, 0)) := heap_alloc_new w.drew (.cells row e)
  have hrun : (convert src dst (.string s)).run P w = .ok (.slice (some ⟨w.heap.size, 0, none⟩) s.size cap) (W.freeze ⟨w.heap.size, row.size, none⟩ 1) := by
    have hsh : W.shape? w.heap.size = some (e, row.size) := by
      unfold World.shape?
      rw [hW0]
    simp only [convert, Sem.run_bind, hE.run_und hs, hE.run_und hd, Result.andThen_ok]
    have hconv : (Conv.stringToBytes e s).run P w = .ok (.slice (some ⟨w.heap.size, 0, none⟩) s.size cap) (W.freeze ⟨w.heap.size, row.size, none⟩ 1) := by
      simp only [Conv.stringToBytes, Sem.run_bind, run_choose, Question.forced, Bool.false_eq_true, if_false, Result.andThen_ok, newRow, run_newObj, Sem.run_pure, World.drew_eq, World.alloc_eq, World.size_drew, markStringish]
      have : ({ w.drew with heap := w.drew.heap.push (.cells row e) } : World) = W := rfl
      show _ = _
      simp only [run_shape]
      have hc : (Question.appendCap s.size 0 e).cut (w.tape w.drawn (.appendCap s.size 0 e)) = cap := rfl
      simp only [hc]
      have hW : w.drew.alloc (.cells (s.data.map (fun b => Value.int .u8 b.toNat) ++ Array.replicate (cap - s.size) (.int .u8 0)) e) = W := rfl
      simp only [hW, hsh, Result.andThen_ok, run_freeze]
    cases d <;> simp only [Sem.run_bind, hE.run_und he, Result.andThen_ok, hconv]
  have hfr : (W.freeze ⟨w.heap.size, row.size, none⟩ 1).heap[w.heap.size]? = some (.cells row e (row.size, row.size + 1)) := by
    simp only [World.freeze, Nat.one_ne_zero, if_false, Array.getElem?_modify, if_true, hW0, Option.map_some]
    simp
  have hother : ∀ k, k ≠ w.heap.size → (W.freeze ⟨w.heap.size, row.size, none⟩ 1).heap[k]? = W.heap[k]? := by
    intro k hk
    simp [World.freeze, Array.getElem?_modify, Ne.symm hk]
  have hcell : ∀ i, (W.freeze ⟨w.heap.size, row.size, none⟩ 1).cell? ⟨w.heap.size, i, none⟩ = row[i]? := by intro i; simp [World.cell?, hfr]
  have hfz : ∀ i, i < row.size → (W.freeze ⟨w.heap.size, row.size, none⟩ 1).frozen? ⟨w.heap.size, i, none⟩ = false := by intro i hi; simp [World.frozen?, hfr]; omega
  obtain ⟨hS', hx, hnx, _⟩ := hS.newAt (l := (w.heap.size, 0)) (e := cap - s.size) (w' := W.freeze ⟨w.heap.size, row.size, none⟩ 1) hn rfl rfl rfl (by simp [World.freeze, W])
    (fun k hk hne => by rw [hother k (by omega)]; exact heap_alloc_old w.drew _ k hk) (fun _ => by simp [World.freeze, W]) (fun _ hlt => absurd hlt (by have := hS.size; simp only; omega))
    (fun _ m o' hg hlive => Nat.ne_of_lt (hS.blk m o' hg hlive)) ⟨by
      intro i v hv
      simp only [Ren.upd, if_true, Nat.zero_add, hcell]
      have hi := (List.getElem?_eq_some_iff.1 hv).1
      have hv2 := intList_bd μ'.next _ v (List.mem_of_getElem? hv)
      refine ⟨?_, hv2⟩
      simp only [intList, List.getElem?_map, Option.map_eq_some_iff] at hv
      obtain ⟨b, hb, rfl⟩ := hv
      simp only [intList, List.length_map, Array.length_toList] at hi
      simp only [row, conc_int]
      rw [Array.getElem?_append_left (by simpa using hi)]
      simp only [Array.getElem?_map]
      rw [← Array.getElem?_toList, hb]
      rfl, by
      intro i hi
      simp only [Ren.upd, if_true, Nat.zero_add, Nat.mul_one, intList, List.length_map, Array.length_toList] at hi ⊢
      have hi' : i < row.size := by
        rw [hsz]
        have : s.size = s.data.size := rfl
        omega
      refine ⟨?_, hfz i hi'⟩
      rw [hcell, Array.getElem?_eq_getElem hi']
      rfl⟩
  refine ⟨_, _, ?_, hS', hx, by omega, by simp [hnx]⟩
  rw [hrun]
  have hcp : capOf (2 * s.size + 1) = s.size ∧ capOpen (2 * s.size + 1) = true := by
    unfold capOf capOpen
    refine ⟨by omega, ?_⟩
    rw [show (2 * s.size + 1) % 2 = 1 by omega]
    rfl
  simp only [conc_slice, Ren.addr, Ren.cap, Ren.upd, if_true, Nat.zero_add, hcp.1, hcp.2, cond_true]
  rw [show s.size + (cap - s.size) = cap by show _ + (grownCap w s.size 0 e - _) = grownCap w s.size 0 e; omega]
end
end Go.Abs
