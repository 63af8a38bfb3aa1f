/-
  The abstract machine: what an abstract heap says of a world (names are blocks by a renaming), and how it stays true.
-/
import Derived.Test.YtnbhpnnjmfeafaaAmDef
import Derived.Below
import Derived.Laws.Rows
namespace Go.Abs
set_option linter.unusedVariables false
set_option linter.unusedSimpArgs false

/-! ### Tries -/
theorem beq_no {a b : Nat} (h : a ≠ b) : Nat.beq a b = false := by
  cases e : Nat.beq a b with
  | false => rfl
  | true => exact absurd (Nat.eq_of_beq_eq_true e) h
theorem beq_yes {a b : Nat} (h : Nat.beq a b = true) : a = b := Nat.eq_of_beq_eq_true h
theorem Tr.get_set_same {α : Type} : ∀ (f : Nat) (t : Tr α) (k : Nat) (x : α), k + 1 < 2 ^ f → (Tr.set f t k x).get k = some x := by
  intro f
  induction f with
  | zero => intro t k x h; simp at h
  | succ f ih =>
    intro t k x h
    have hp : 2 ^ (f + 1) = 2 * 2 ^ f := by rw [Nat.pow_succ, Nat.mul_comm]
    cases t <;> simp only [Tr.set] <;> (
      rcases Nat.eq_zero_or_pos k with h0 | h0
      · subst h0; simp [Tr.get]
      · have hk : Nat.beq k 0 = false := beq_no (by omega)
        simp only [hk, cond_false]
        cases hb : Nat.beq (k % 2) 1 with
        | true =>
          have hm : k % 2 = 1 := Nat.eq_of_beq_eq_true hb
          simp only [cond_true, Tr.get, hk, hb, cond_false]
          exact ih _ _ _ (by omega)
        | false =>
          have hm : k % 2 ≠ 1 := Nat.ne_of_beq_eq_false hb
          simp only [cond_false, Tr.get, hk, hb]
          exact ih _ _ _ (by omega))
theorem Tr.get_set_other {α : Type} : ∀ (f : Nat) (t : Tr α) (k j : Nat) (x : α), k ≠ j → (Tr.set f t k x).get j = t.get j := by
  intro f
  induction f with
  | zero => intro t k j x h; rfl
  | succ f ih =>
    intro t k j x h
    cases t <;> simp only [Tr.set] <;> (
      cases hk : Nat.beq k 0 with
      | true =>
        have h0 : k = 0 := Nat.eq_of_beq_eq_true hk
        have hj : Nat.beq j 0 = false := beq_no (by omega)
        simp only [cond_true, Tr.get, hj, cond_false]
        try (cases Nat.beq (j % 2) 1 <;> rfl)
      | false =>
        have h0 : k ≠ 0 := Nat.ne_of_beq_eq_false hk
        simp only [cond_false]
        cases hj : Nat.beq j 0 with
        | true => cases hb : Nat.beq (k % 2) 1 <;> simp [Tr.get, hj]
        | false =>
          have hj0 : j ≠ 0 := Nat.ne_of_beq_eq_false hj
          cases hb : Nat.beq (k % 2) 1 <;> cases hc : Nat.beq (j % 2) 1 <;> simp only [cond_true, cond_false, Tr.get, hj, hc]
          · have h1 := Nat.ne_of_beq_eq_false hb
            have h2 := Nat.ne_of_beq_eq_false hc
            exact ih _ _ _ _ (by omega)
          · have h1 := Nat.eq_of_beq_eq_true hb
            have h2 := Nat.eq_of_beq_eq_true hc
            exact ih _ _ _ _ (by omega))

/-! ### Renamings -/
structure Ren where
  loc : Nat → Nat × Nat
  ext : Nat → Nat
def Ren.addr (ι : Ren) (a : Addr) : Addr := { block := (ι.loc a.block).1, off := (ι.loc a.block).2 + a.off, spot := a.spot }
def Ren.cap (ι : Ren) (n c : Nat) : Nat := capOf c + bif capOpen c then ι.ext n else 0

def conc (ι : Ren) : Value → Value
  | .pointer (some a) => .pointer (some (ι.addr a))
  | .slice (some a) l c => .slice (some (ι.addr a)) l (ι.cap a.block c)
  | .map (some r) => .map (some (ι.loc r).1)
  | .func fn f c => .func fn (f.map fun x => conc ι x) (c.map fun x => conc ι x)
  | .iface t v => .iface t (conc ι v)
  | .agg cs => .agg (cs.map fun x => conc ι x)
  | .tuple cs => .tuple (cs.map fun x => conc ι x)
  | v => v
/-- All names in it are below N. -/
def Bd (N : Nat) : Value → Prop
  | .pointer (some a) => a.block < N
  | .slice (some a) _ _ => a.block < N
  | .map (some r) => r < N
  | .func _ f c => (∀ x ∈ f, Bd N x) ∧ ∀ x ∈ c, Bd N x
  | .iface _ v => Bd N v
  | .agg cs => ∀ x ∈ cs, Bd N x
  | .tuple cs => ∀ x ∈ cs, Bd N x
  | .chan _ => False
  | _ => True

section
variable (ι : Ren) (N : Nat)
@[simp] theorem conc_bool (b : Bool) : conc ι (.bool b) = .bool b := by simp [conc]
@[simp] theorem conc_int (k : IntKind) (n : Int) : conc ι (.int k n) = .int k n := by simp [conc]
@[simp] theorem conc_float (k : FloatKind) (n : Nat) : conc ι (.float k n) = .float k n := by simp [conc]
@[simp] theorem conc_complex (k : FloatKind) (n m : Nat) : conc ι (.complex k n m) = .complex k n m := by simp [conc]
@[simp] theorem conc_string (s : ByteArray) : conc ι (.string s) = .string s := by simp [conc]
@[simp] theorem conc_nilptr : conc ι (.pointer none) = .pointer none := by simp [conc]
@[simp] theorem conc_ptr (a : Addr) : conc ι (.pointer (some a)) = .pointer (some (ι.addr a)) := by simp [conc]
@[simp] theorem conc_nilslice (l c : Nat) : conc ι (.slice none l c) = .slice none l c := by simp [conc]
@[simp] theorem conc_slice (a : Addr) (l c : Nat) : conc ι (.slice (some a) l c) = .slice (some (ι.addr a)) l (ι.cap a.block c) := by simp [conc]
@[simp] theorem conc_nilmap : conc ι (.map none) = .map none := by simp [conc]
@[simp] theorem conc_map (r : Nat) : conc ι (.map (some r)) = .map (some (ι.loc r).1) := by simp [conc]
@[simp] theorem conc_func (fn : Fn) (f c : Array Value) : conc ι (.func fn f c) = .func fn (f.map (conc ι)) (c.map (conc ι)) := by simp [conc]
@[simp] theorem conc_nilFunc : conc ι .nilFunc = .nilFunc := by simp [conc]
@[simp] theorem conc_iface (t : TypeId) (v : Value) : conc ι (.iface t v) = .iface t (conc ι v) := by simp [conc]
@[simp] theorem conc_nilIface : conc ι .nilIface = .nilIface := by simp [conc]
@[simp] theorem conc_agg (cs : Array Value) : conc ι (.agg cs) = .agg (cs.map (conc ι)) := by simp [conc]
@[simp] theorem conc_tuple (cs : Array Value) : conc ι (.tuple cs) = .tuple (cs.map (conc ι)) := by simp [conc]
@[simp] theorem conc_undef : conc ι undef = undef := by simp [undef, conc]

@[simp] theorem Bd_bool (b : Bool) : Bd N (.bool b) = True := by simp [Bd]
@[simp] theorem Bd_int (k : IntKind) (n : Int) : Bd N (.int k n) = True := by simp [Bd]
@[simp] theorem Bd_float (k : FloatKind) (n : Nat) : Bd N (.float k n) = True := by simp [Bd]
@[simp] theorem Bd_complex (k : FloatKind) (n m : Nat) : Bd N (.complex k n m) = True := by simp [Bd]
@[simp] theorem Bd_string (s : ByteArray) : Bd N (.string s) = True := by simp [Bd]
@[simp] theorem Bd_nilptr : Bd N (.pointer none) = True := by simp [Bd]
@[simp] theorem Bd_ptr (a : Addr) : Bd N (.pointer (some a)) = (a.block < N) := by simp [Bd]
@[simp] theorem Bd_nilslice (l c : Nat) : Bd N (.slice none l c) = True := by simp [Bd]
@[simp] theorem Bd_slice (a : Addr) (l c : Nat) : Bd N (.slice (some a) l c) = (a.block < N) := by simp [Bd]
@[simp] theorem Bd_nilmap : Bd N (.map none) = True := by simp [Bd]
@[simp] theorem Bd_map (r : Nat) : Bd N (.map (some r)) = (r < N) := by simp [Bd]
@[simp] theorem Bd_func (fn : Fn) (f c : Array Value) : Bd N (.func fn f c) = ((∀ x ∈ f, Bd N x) ∧ ∀ x ∈ c, Bd N x) := by simp [Bd]
@[simp] theorem Bd_nilFunc : Bd N .nilFunc = True := by simp [Bd]
@[simp] theorem Bd_iface (t : TypeId) (v : Value) : Bd N (.iface t v) = Bd N v := by simp [Bd]
@[simp] theorem Bd_nilIface : Bd N .nilIface = True := by simp [Bd]
@[simp] theorem Bd_agg (cs : Array Value) : Bd N (.agg cs) = (∀ x ∈ cs, Bd N x) := by simp [Bd]
@[simp] theorem Bd_tuple (cs : Array Value) : Bd N (.tuple cs) = (∀ x ∈ cs, Bd N x) := by simp [Bd]
@[simp] theorem Bd_undef : Bd N undef = True := by simp [undef, Bd]
end

structure Ext (N : Nat) (ι ι' : Ren) : Prop where
  loc : ∀ n, n < N → ι'.loc n = ι.loc n
  ext : ∀ n, n < N → ι'.ext n = ι.ext n
theorem Ext.refl (N : Nat) (ι : Ren) : Ext N ι ι := ⟨fun _ _ => rfl, fun _ _ => rfl⟩
theorem Ext.trans {N M : Nat} {a b c : Ren} (h : Ext N a b) (k : Ext M b c) (hl : N ≤ M) : Ext N a c :=
  ⟨fun n hn => (k.loc n (by omega)).trans (h.loc n hn), fun n hn => (k.ext n (by omega)).trans (h.ext n hn)⟩
theorem Ext.mono {N M : Nat} {a b : Ren} (h : Ext M a b) (hl : N ≤ M) : Ext N a b := ⟨fun n hn => h.loc n (by omega), fun n hn => h.ext n (by omega)⟩

theorem Ext.addr {N : Nat} {ι ι' : Ren} (h : Ext N ι ι') {a : Addr} (ha : a.block < N) : ι'.addr a = ι.addr a := by simp [Ren.addr, h.loc _ ha]
theorem Ext.cap {N : Nat} {ι ι' : Ren} (h : Ext N ι ι') {n : Nat} (hn : n < N) (c : Nat) : ι'.cap n c = ι.cap n c := by simp [Ren.cap, h.ext _ hn]

theorem conc_ext {N : Nat} {ι ι' : Ren} (h : Ext N ι ι') : ∀ (v : Value), Bd N v → conc ι' v = conc ι v
  | .pointer (some a), hv => by simp at hv; simp [h.addr hv]
  | .slice (some a) l c, hv => by simp at hv; simp [h.addr hv, h.cap hv]
  | .map (some r), hv => by simp at hv; simp [h.loc _ hv]
  | .func fn f c, hv => by
    simp only [Bd_func] at hv
    simp only [conc_func]
    rw [Array.map_congr_left fun x hx => conc_ext h x (hv.1 x hx), Array.map_congr_left fun x hx => conc_ext h x (hv.2 x hx)]
  | .iface t v, hv => by simp at hv; simp [conc_ext h v hv]
  | .agg cs, hv => by
    simp only [Bd_agg] at hv
    simp only [conc_agg]
    rw [Array.map_congr_left fun x hx => conc_ext h x (hv x hx)]
  | .tuple cs, hv => by
    simp only [Bd_tuple] at hv
    simp only [conc_tuple]
    rw [Array.map_congr_left fun x hx => conc_ext h x (hv x hx)]
  | .chan r, hv => by simp [Bd] at hv
  | .bool _, _ | .int _ _, _ | .float _ _, _ | .complex _ _ _, _ | .string _, _ | .pointer none, _ | .slice none _ _, _ | .map none, _ | .nilFunc, _ | .nilIface, _ => by simp
theorem Bd.mono {N M : Nat} (hl : N ≤ M) : ∀ (v : Value), Bd N v → Bd M v
  | .pointer (some a), hv => by simp at *; omega
  | .slice (some a) l c, hv => by simp at *; omega
  | .map (some r), hv => by simp at *; omega
  | .func fn f c, hv => by
    simp only [Bd_func] at *
    exact ⟨fun x hx => Bd.mono hl x (hv.1 x hx), fun x hx => Bd.mono hl x (hv.2 x hx)⟩
  | .iface t v, hv => by simp at *; exact Bd.mono hl v hv
  | .agg cs, hv => by simp only [Bd_agg] at *; exact fun x hx => Bd.mono hl x (hv x hx)
  | .tuple cs, hv => by simp only [Bd_tuple] at *; exact fun x hx => Bd.mono hl x (hv x hx)
  | .chan r, hv => by simp [Bd] at hv
  | .bool _, _ | .int _ _, _ | .float _ _, _ | .complex _ _ _, _ | .string _, _ | .pointer none, _ | .slice none _ _, _ | .map none, _ | .nilFunc, _ | .nilIface, _ => by simp

theorem conc_atom (ι : Ren) (N : Nat) : ∀ (v : Value), atom v = true → conc ι v = v ∧ Bd N v
  | .pointer (some a), h | .slice (some a) l c, h | .map (some r), h | .func fn f c, h | .iface t v, h | .agg cs, h | .tuple cs, h | .chan r, h => by simp [atom] at h
  | .bool _, _ | .int _ _, _ | .float _ _, _ | .complex _ _ _, _ | .string _, _ | .pointer none, _ | .slice none _ _, _ | .map none, _ | .nilFunc, _ | .nilIface, _ => by simp
theorem conc_atoms (ι : Ren) (N : Nat) (cs : Array Value) (h : cs.toList.all atom = true) : cs.map (conc ι) = cs ∧ ∀ x ∈ cs, Bd N x := by
  have ha : ∀ x ∈ cs, atom x = true := fun x hx => List.all_eq_true.1 h x (Array.mem_toList_iff.2 hx)
  refine ⟨?_, fun x hx => (conc_atom ι N x (ha x hx)).2⟩
  have : cs.map (conc ι) = cs.map id := Array.map_congr_left fun x hx => (conc_atom ι N x (ha x hx)).1
  simpa using this
theorem conc_flat (ι : Ren) (N : Nat) (v : Value) (h : flat v = true) : conc ι v = v ∧ Bd N v := by
  unfold flat at h
  split at h
  · have := conc_atoms ι N _ h; simp only [conc_agg, Bd_agg]; exact ⟨by rw [this.1], this.2⟩
  · have := conc_atoms ι N _ h; simp only [conc_iface, conc_agg, Bd_iface, Bd_agg]; exact ⟨by rw [this.1], this.2⟩
  · have := conc_atom ι N _ h; simp only [conc_iface, Bd_iface]; exact ⟨by rw [this.1], this.2⟩
  · exact conc_atom ι N _ h
theorem conc_plain (ι : Ren) (N : Nat) : ∀ (n : Nat) (v : Value), plain n v = true → conc ι v = v ∧ Bd N v := by
  intro n
  induction n with
  | zero => intro v h; simp [plain] at h
  | succ n ih =>
    intro v h
    have arr : ∀ (cs : Array Value), cs.toList.all (plain n) = true → cs.map (conc ι) = cs ∧ ∀ x ∈ cs, Bd N x := by
      intro cs hc
      have ha : ∀ x ∈ cs, plain n x = true := fun x hx => List.all_eq_true.1 hc x (Array.mem_toList_iff.2 hx)
      refine ⟨?_, fun x hx => (ih x (ha x hx)).2⟩
      have : cs.map (conc ι) = cs.map id := Array.map_congr_left fun x hx => (ih x (ha x hx)).1
      simpa using this
    match v, h with
    | .func fn f c, h =>
      simp only [plain, Bool.and_eq_true] at h
      simp only [conc_func, Bd_func]
      exact ⟨by rw [(arr f h.1).1, (arr c h.2).1], (arr f h.1).2, (arr c h.2).2⟩
    | .iface t v, h => simp only [plain] at h; simp [ih v h]
    | .agg cs, h => simp only [plain] at h; simp only [conc_agg, Bd_agg]; exact ⟨by rw [(arr cs h).1], (arr cs h).2⟩
    | .tuple cs, h => simp only [plain] at h; simp only [conc_tuple, Bd_tuple]; exact ⟨by rw [(arr cs h).1], (arr cs h).2⟩
    | .pointer (some a), h | .slice (some a) _ _, h | .map (some r), h | .chan r, h => simp [plain] at h
    | .bool _, _ | .int _ _, _ | .float _ _, _ | .complex _ _ _, _ | .string _, _ | .pointer none, _ | .slice none _ _, _ | .map none, _ | .nilFunc, _ | .nilIface, _ => simp

theorem conc_cells (ι : Ren) (v : Value) : (conc ι v).cells = v.cells.map (conc ι) := by
  match v with
  | .pointer (some a) | .slice (some a) l c | .map (some r) | .func fn f c | .iface t v | .agg cs | .tuple cs => simp [Value.cells]
  | .chan r => simp [Value.cells, conc]
  | .bool _ | .int _ _ | .float _ _ | .complex _ _ _ | .string _ | .pointer none | .slice none _ _ | .map none | .nilFunc | .nilIface => simp [Value.cells]
theorem Bd_cells {N : Nat} {v : Value} (h : Bd N v) : ∀ x ∈ v.cells, Bd N x := by
  match v, h with
  | .agg cs, h => simpa [Value.cells] using h
  | .pointer (some a), h | .slice (some a) l c, h | .map (some r), h | .func fn f c, h | .iface t v, h | .tuple cs, h | .chan r, h => simp only [Value.cells, List.mem_toArray, List.mem_singleton, forall_eq] <;> exact h
  | .bool _, _ | .int _ _, _ | .float _ _, _ | .complex _ _ _, _ | .string _, _ | .pointer none, _ | .slice none _ _, _ | .map none, _ | .nilFunc, _ | .nilIface, _ => simp [Value.cells]
theorem conc_one (ι : Ren) (v : Value) (h : one v = true) : (conc ι v).oneCell' = true := by
  match v, h with
  | .pointer (some a), h | .slice (some a) l c, h | .map (some r), h | .func fn f c, h | .iface t v, h => simp [Value.oneCell']
  | .chan r, h => simp [Value.oneCell', conc]
  | .agg cs, h | .tuple cs, h => simp [one] at h
  | .bool _, _ | .int _ _, _ | .float _ _, _ | .complex _ _ _, _ | .string _, _ | .pointer none, _ | .slice none _ _, _ | .map none, _ | .nilFunc, _ | .nilIface, _ => simp [Value.oneCell']

def concE (ι : Ren) (e : MapEntry) : MapEntry := { key := conc ι e.key, val := conc ι e.val, born := e.born }

/-! ### Objects -/
def AObj.live : AObj → Bool
  | .dead => false
  | _ => true
def ObjOk (ι : Ren) (N : Nat) (w : World) (n : Nat) : AObj → Prop
  | .cells vs es => (∀ i v, vs[i]? = some v → w.cell? ⟨(ι.loc n).1, (ι.loc n).2 + i, none⟩ = some (conc ι v) ∧ Bd N v) ∧
      ∀ i, i < vs.length + ι.ext n * es → (w.cell? ⟨(ι.loc n).1, (ι.loc n).2 + i, none⟩).isSome = true ∧ w.frozen? ⟨(ι.loc n).1, (ι.loc n).2 + i, none⟩ = false
  | .map es clock => (ι.loc n).2 = 0 ∧ w.heap[(ι.loc n).1]? = some (.map (es.map (concE ι)).toArray clock) ∧ ∀ e ∈ es, Bd N e.key ∧ Bd N e.val
  | .sIter s pos => (ι.loc n).2 = 0 ∧ w.heap[(ι.loc n).1]? = some (.stringIter s pos)
  | .mIter m since seen st => (ι.loc n).2 = 0 ∧ w.heap[(ι.loc n).1]? = some (.mapIter (m.map fun r => (ι.loc r).1) since seen.toArray st) ∧ ∀ r, m = some r → r < N
  | .dead => True

theorem ObjOk.mono {ι ι' : Ren} {N N' : Nat} {w w' : World} {n : Nat} {o : AObj} (h : ObjOk ι N w n o) (hE : Ext N ι ι') (hN : N ≤ N') (hn : n < N)
    (hb : o.live = true → w'.heap[(ι.loc n).1]? = w.heap[(ι.loc n).1]?) : ObjOk ι' N' w' n o := by
  have hloc := hE.loc n hn
  have hext := hE.ext n hn
  cases o with
  | cells vs es =>
    have hb := hb rfl
    simp only [ObjOk, hloc, hext] at h ⊢
    refine ⟨fun i v hv => ?_, fun i hi => ?_⟩
    · obtain ⟨h1, h2⟩ := h.1 i v hv
      rw [World.cell?_of_block (w := w) hb, conc_ext hE v h2]
      exact ⟨h1, Bd.mono hN v h2⟩
    · rw [World.cell?_of_block (w := w) hb, World.frozen?_of_block (w := w) hb]
      exact h.2 i hi
  | map es clock =>
    have hb := hb rfl
    simp only [ObjOk, hloc] at h ⊢
    obtain ⟨h0, h1, h2⟩ := h
    refine ⟨h0, ?_, fun e he => ⟨Bd.mono hN _ (h2 e he).1, Bd.mono hN _ (h2 e he).2⟩⟩
    rw [hb, h1]
    congr 3
    exact List.map_congr_left fun e he => by simp [concE, conc_ext hE _ (h2 e he).1, conc_ext hE _ (h2 e he).2]
  | sIter s pos => have hb := hb rfl; simp only [ObjOk, hloc] at h ⊢; exact ⟨h.1, hb.trans h.2⟩
  | mIter m since seen st =>
    have hb := hb rfl
    simp only [ObjOk, hloc] at h ⊢
    obtain ⟨h0, h1, h2⟩ := h
    refine ⟨h0, ?_, fun r hr => Nat.lt_of_lt_of_le (h2 r hr) hN⟩
    rw [hb, h1]
    cases m with
    | none => rfl
    | some r => simp [hE.loc r (h2 r rfl)]
  | dead => trivial

/-! ### Heaps -/
structure Sim (pr : Nat → Prop) (w0 : World) (ng : Nat) (ι : Ren) (μ : Hp) (w : World) : Prop where
  os : w.os = w0.os
  tape : w.tape = w0.tape
  output : w.output = w0.output
  size : w0.heap.size ≤ w.heap.size
  prot : ∀ k, k < w0.heap.size → pr k → w.heap[k]? = w0.heap[k]?
  lt : ∀ n o, μ.get n = some o → n < μ.next
  obj : ∀ n o, μ.get n = some o → ObjOk ι μ.next w n o
  blk : ∀ n o, μ.get n = some o → o.live = true → (ι.loc n).1 < w.heap.size
  free : ∀ n o, μ.get n = some o → o.live = true → (ι.loc n).1 < w0.heap.size → ¬ pr (ι.loc n).1
  inj : ∀ n m o o', μ.get n = some o → μ.get m = some o' → o.live = true → o'.live = true → n ≠ m → (ι.loc n).1 ≠ (ι.loc m).1
  lim : μ.next ≤ limit
  glob : ∀ g, g < ng → ι.loc g = (g, 0) ∧ g < μ.next

section
variable {pr : Nat → Prop} {w0 : World} {ng : Nat} {ι : Ren} {μ : Hp} {w : World}

theorem Hp.cells_get {μ : Hp} {n : Nat} {vs : List Value} (h : μ.cells n = some vs) : ∃ es, μ.get n = some (.cells vs es) := by
  unfold Hp.cells at h
  split at h
  · rename_i vs' es hg; simp at h; subst h; exact ⟨es, hg⟩
  · cases h
theorem Sim.cell (h : Sim pr w0 ng ι μ w) {n : Nat} {vs : List Value} (hc : μ.cells n = some vs) {i : Nat} {v : Value} (hv : vs[i]? = some v) :
    w.cell? ⟨(ι.loc n).1, (ι.loc n).2 + i, none⟩ = some (conc ι v) ∧ Bd μ.next v := by
  obtain ⟨es, hg⟩ := Hp.cells_get hc
  exact (h.obj n _ hg).1 i v hv
theorem get_put_same {μ : Hp} {n : Nat} (o : AObj) (h : n < limit) : (μ.put n o).get n = some o :=
  Tr.get_set_same 40 _ n o (by unfold limit at h; omega)
theorem get_put_other {μ : Hp} {n m : Nat} (o : AObj) (h : n ≠ m) : (μ.put n o).get m = μ.get m := Tr.get_set_other 40 _ n m o h
theorem Hp.new_eq {μ μ' : Hp} {o : AObj} {n : Nat} (h : μ.new o = some (n, μ')) : n = μ.next ∧ μ.next < limit ∧ μ' = { objs := Tr.set 40 μ.objs μ.next o, next := μ.next + 1 } := by
  unfold Hp.new at h
  cases hb : Nat.blt μ.next limit with
  | false => rw [hb] at h; simp at h
  | true =>
    rw [hb] at h
    simp at h
    exact ⟨h.1.symm, by simpa [Nat.blt_eq] using hb, h.2.symm⟩

def Ren.upd (ι : Ren) (n : Nat) (l : Nat × Nat) (e : Nat) : Ren := { loc := fun k => if k = n then l else ι.loc k, ext := fun k => if k = n then e else ι.ext k }
theorem Ren.upd_ext (ι : Ren) (n : Nat) (l : Nat × Nat) (e : Nat) : Ext n ι (ι.upd n l e) :=
  ⟨fun k hk => by simp [Ren.upd, Nat.ne_of_lt hk], fun k hk => by simp [Ren.upd, Nat.ne_of_lt hk]⟩

/-- A new name for a block that no living name has. -/
theorem Sim.newAt (h : Sim pr w0 ng ι μ w) {μ' : Hp} {o : AObj} {n : Nat} (hn : μ.new o = some (n, μ')) {w' : World} {l : Nat × Nat} {e : Nat}
    (hos : w'.os = w.os) (ht : w'.tape = w.tape) (ho : w'.output = w.output) (hs : w.heap.size ≤ w'.heap.size)
    (hsame : ∀ k, k < w.heap.size → (o.live = true → k ≠ l.1) → w'.heap[k]? = w.heap[k]?)
    (hl : o.live = true → l.1 < w'.heap.size) (hfree : o.live = true → l.1 < w0.heap.size → ¬ pr l.1)
    (hother : o.live = true → ∀ m o', μ.get m = some o' → o'.live = true → (ι.loc m).1 ≠ l.1)
    (hobj : ObjOk (ι.upd n l e) μ'.next w' n o) :
    Sim pr w0 ng (ι.upd n l e) μ' w' ∧ Ext μ.next ι (ι.upd n l e) ∧ μ'.next = μ.next + 1 ∧ n = μ.next := by
  obtain ⟨rfl, hlim, rfl⟩ := Hp.new_eq hn
  have hE := Ren.upd_ext ι μ.next l e
  have hget : ∀ m o', ({ objs := Tr.set 40 μ.objs μ.next o, next := μ.next + 1 } : Hp).get m = some o' → (m = μ.next ∧ o' = o) ∨ (m < μ.next ∧ μ.get m = some o') := by
    intro m o' hg
    by_cases hm : m = μ.next
    · subst hm
      have := get_put_same (μ := μ) o hlim
      simp only [Hp.get, Hp.put] at this hg
      rw [this] at hg
      exact .inl ⟨rfl, (Option.some.inj hg).symm⟩
    · have := get_put_other (μ := μ) o (Ne.symm hm)
      simp only [Hp.get, Hp.put] at this hg
      rw [this] at hg
      exact .inr ⟨h.lt m o' hg, hg⟩
  refine ⟨⟨hos.trans h.os, ht.trans h.tape, ho.trans h.output, Nat.le_trans h.size hs, ?_, ?_, ?_, ?_, ?_, ?_, ?_, ?_⟩, hE, rfl, rfl⟩
  · intro k hk hp
    by_cases hkl : o.live = true ∧ k = l.1
    · obtain ⟨hlv, rfl⟩ := hkl; exact absurd hp (hfree hlv hk)
    · exact (hsame k (Nat.lt_of_lt_of_le hk h.size) (fun hlv e => hkl ⟨hlv, e⟩)).trans (h.prot k hk hp)
  · intro m o' hg
    rcases hget m o' hg with ⟨rfl, _⟩ | ⟨hm, _⟩
    · exact Nat.lt_succ_self _
    · exact Nat.lt_succ_of_lt hm
  · intro m o' hg
    rcases hget m o' hg with ⟨rfl, rfl⟩ | ⟨hm, hg'⟩
    · exact hobj
    · refine (h.obj m o' hg').mono hE (Nat.le_succ _) hm (fun hlive => ?_)
      exact hsame _ (h.blk m o' hg' hlive) (fun hlv => hother hlv m o' hg' hlive)
  · intro m o' hg hlive
    rcases hget m o' hg with ⟨rfl, rfl⟩ | ⟨hm, hg'⟩
    · simpa [Ren.upd] using hl hlive
    · rw [hE.loc m hm]; exact Nat.lt_of_lt_of_le (h.blk m o' hg' hlive) hs
  · intro m o' hg hlive hlt
    rcases hget m o' hg with ⟨rfl, rfl⟩ | ⟨hm, hg'⟩
    · simp only [Ren.upd, if_true] at hlt ⊢; exact hfree hlive hlt
    · rw [hE.loc m hm] at hlt ⊢; exact h.free m o' hg' hlive hlt
  · intro m k o' o'' hg hg' hlive hlive' hne
    rcases hget m o' hg with ⟨rfl, rfl⟩ | ⟨hm, hg1⟩ <;> rcases hget k o'' hg' with ⟨rfl, rfl⟩ | ⟨hk, hg2⟩
    · exact absurd rfl hne
    · rw [hE.loc k hk]; simp only [Ren.upd, if_true]; exact (hother hlive k o'' hg2 hlive').symm
    · rw [hE.loc m hm]; simp only [Ren.upd, if_true]; exact hother hlive' m o' hg1 hlive
    · rw [hE.loc m hm, hE.loc k hk]; exact h.inj m k o' o'' hg1 hg2 hlive hlive' hne
  · simp only; omega
  · intro g hg
    obtain ⟨h1, h2⟩ := h.glob g hg
    exact ⟨by rw [hE.loc g h2, h1], Nat.lt_succ_of_lt h2⟩

/-- A new name for a new block. -/
theorem Sim.alloc (h : Sim pr w0 ng ι μ w) {μ' : Hp} {o : AObj} {n : Nat} (hn : μ.new o = some (n, μ')) (O : Obj) (e : Nat)
    (hobj : ObjOk (ι.upd n (w.heap.size, 0) e) μ'.next (w.alloc O) n o) :
    Sim pr w0 ng (ι.upd n (w.heap.size, 0) e) μ' (w.alloc O) ∧ Ext μ.next ι (ι.upd n (w.heap.size, 0) e) ∧ μ'.next = μ.next + 1 ∧ n = μ.next :=
  h.newAt hn rfl rfl rfl (by simp) (fun k hk _ => heap_alloc_old w O k hk) (fun _ => by simp) (fun _ hlt => absurd hlt (by have := h.size; simp only; omega))
    (fun _ m o' hg hlive => Nat.ne_of_lt (h.blk m o' hg hlive)) hobj

/-- What a living name's object is, is turned. -/
theorem Sim.turn (h : Sim pr w0 ng ι μ w) {n : Nat} {o o' : AObj} (hg : μ.get n = some o) (hlive : o.live = true) {w' : World}
    (hos : w'.os = w.os) (ht : w'.tape = w.tape) (ho : w'.output = w.output) (hs : w.heap.size = w'.heap.size)
    (hsame : ∀ k, k ≠ (ι.loc n).1 → w'.heap[k]? = w.heap[k]?) (hobj : ObjOk ι μ.next w' n o') : Sim pr w0 ng ι (μ.put n o') w' := by
  have hnlt := h.lt n o hg
  have hlim : n < limit := Nat.lt_of_lt_of_le hnlt h.lim
  have hget : ∀ m o'', (μ.put n o').get m = some o'' → (m = n ∧ o'' = o') ∨ (m ≠ n ∧ μ.get m = some o'') := by
    intro m o'' hm
    by_cases e : m = n
    · subst e; rw [get_put_same o' hlim] at hm; exact .inl ⟨rfl, (Option.some.inj hm).symm⟩
    · rw [get_put_other o' (Ne.symm e)] at hm; exact .inr ⟨e, hm⟩
  refine ⟨hos.trans h.os, ht.trans h.tape, ho.trans h.output, by rw [← hs]; exact h.size, ?_, ?_, ?_, ?_, ?_, ?_, h.lim, h.glob⟩
  · intro k hk hp
    by_cases hkl : k = (ι.loc n).1
    · subst hkl; exact absurd hp (h.free n o hg hlive hk)
    · exact (hsame k hkl).trans (h.prot k hk hp)
  · intro m o'' hm
    rcases hget m o'' hm with ⟨rfl, _⟩ | ⟨_, hm'⟩
    · exact hnlt
    · exact h.lt m o'' hm'
  · intro m o'' hm
    rcases hget m o'' hm with ⟨rfl, rfl⟩ | ⟨hne, hm'⟩
    · exact hobj
    · exact (h.obj m o'' hm').mono (Ext.refl _ _) (Nat.le_refl _) (h.lt m o'' hm') (fun hl => hsame _ (h.inj m n o'' o hm' hg hl hlive hne))
  · intro m o'' hm hl
    rw [← hs]
    rcases hget m o'' hm with ⟨rfl, rfl⟩ | ⟨hne, hm'⟩
    · exact h.blk m o hg hlive
    · exact h.blk m o'' hm' hl
  · intro m o'' hm hl
    rcases hget m o'' hm with ⟨rfl, rfl⟩ | ⟨hne, hm'⟩
    · exact h.free m o hg hlive
    · exact h.free m o'' hm' hl
  · intro m k o1 o2 hm hk hl1 hl2 hne
    rcases hget m o1 hm with ⟨rfl, rfl⟩ | ⟨hne1, hm'⟩ <;> rcases hget k o2 hk with ⟨rfl, rfl⟩ | ⟨hne2, hk'⟩
    · exact absurd rfl hne
    · exact h.inj m k o o2 hg hk' hlive hl2 hne
    · exact h.inj m k o1 o hm' hg hl1 hlive hne
    · exact h.inj m k o1 o2 hm' hk' hl1 hl2 hne

theorem Sim.kill (h : Sim pr w0 ng ι μ w) {n : Nat} {o : AObj} (hg : μ.get n = some o) : Sim pr w0 ng ι (μ.put n .dead) w := by
  have hnlt := h.lt n o hg
  have hlim : n < limit := Nat.lt_of_lt_of_le hnlt h.lim
  have hget : ∀ m o'', (μ.put n .dead).get m = some o'' → (m = n ∧ o'' = .dead) ∨ (m ≠ n ∧ μ.get m = some o'') := by
    intro m o'' hm
    by_cases e : m = n
    · subst e; rw [get_put_same _ hlim] at hm; exact .inl ⟨rfl, (Option.some.inj hm).symm⟩
    · rw [get_put_other _ (Ne.symm e)] at hm; exact .inr ⟨e, hm⟩
  refine ⟨h.os, h.tape, h.output, h.size, h.prot, ?_, ?_, ?_, ?_, ?_, h.lim, h.glob⟩
  · intro m o'' hm
    rcases hget m o'' hm with ⟨rfl, _⟩ | ⟨_, hm'⟩
    · exact hnlt
    · exact h.lt m o'' hm'
  · intro m o'' hm
    rcases hget m o'' hm with ⟨rfl, rfl⟩ | ⟨hne, hm'⟩
    · trivial
    · exact h.obj m o'' hm'
  · intro m o'' hm hl
    rcases hget m o'' hm with ⟨rfl, rfl⟩ | ⟨hne, hm'⟩
    · cases hl
    · exact h.blk m o'' hm' hl
  · intro m o'' hm hl
    rcases hget m o'' hm with ⟨rfl, rfl⟩ | ⟨hne, hm'⟩
    · cases hl
    · exact h.free m o'' hm' hl
  · intro m k o1 o2 hm hk hl1 hl2 hne
    rcases hget m o1 hm with ⟨rfl, rfl⟩ | ⟨hne1, hm'⟩
    · cases hl1
    · rcases hget k o2 hk with ⟨rfl, rfl⟩ | ⟨hne2, hk'⟩
      · cases hl2
      · exact h.inj m k o1 o2 hm' hk' hl1 hl2 hne
/-- A name that is dead has no block: it may be any. -/
theorem Sim.drew (h : Sim pr w0 ng ι μ w) : Sim pr w0 ng ι μ w.drew :=
  ⟨h.os, h.tape, h.output, h.size, h.prot, h.lt, fun n o hg => (h.obj n o hg).mono (Ext.refl _ _) (Nat.le_refl _) (h.lt n o hg) (fun _ => rfl), h.blk, h.free, h.inj, h.lim, h.glob⟩
end

/-! ### Runs -/
theorem pureRun_ok {α : Type} {P : Program} : ∀ {s : Sem α} {a : α}, pureRun P s = .ok a → ∀ w, s.run P w = .ok a w
  | .pure b, a, h, w => by simp [pureRun] at h; subst h; rfl
  | .program k, a, h, w => by simp only [pureRun] at h; exact pureRun_ok (s := k P) h w
  | .mark m k, a, h, w => by simp only [pureRun] at h; exact pureRun_ok (s := k) h w
  | .halt x, a, h, w => by cases x <;> simp [pureRun] at h
  | .load .., _, h, _ | .store .., _, h, _ | .new .., _, h, _ | .shape .., _, h, _ | .freeze .., _, h, _ | .frozen .., _, h, _ | .getObj .., _, h, _ | .setObj .., _, h, _ | .choose .., _, h, _ | .sys .., _, h, _ => by simp [pureRun] at h
theorem pureRun_pan {α : Type} {P : Program} : ∀ {s : Sem α} {v : Value}, pureRun P s = .pan v → ∀ w, s.run P w = .halt (.panic v) w
  | .pure b, v, h, w => by simp [pureRun] at h
  | .program k, v, h, w => by simp only [pureRun] at h; exact pureRun_pan (s := k P) h w
  | .mark m k, v, h, w => by simp only [pureRun] at h; exact pureRun_pan (s := k) h w
  | .halt x, v, h, w => by cases x <;> simp [pureRun] at h; subst h; rfl
  | .load .., _, h, _ | .store .., _, h, _ | .new .., _, h, _ | .shape .., _, h, _ | .freeze .., _, h, _ | .frozen .., _, h, _ | .getObj .., _, h, _ | .setObj .., _, h, _ | .choose .., _, h, _ | .sys .., _, h, _ => by simp [pureRun] at h

theorem addr_add (b o n : Nat) : (⟨b, o, none⟩ : Addr).add n = ⟨b, o + n, none⟩ := by
  unfold Addr.add; split <;> simp_all

/-- A row of cells is written. -/
theorem run_storeCells {P : Program} (b o : Nat) : ∀ (xs : List Value) (i : Nat) (w : World), (∀ j, j < xs.length → (w.cell? ⟨b, o + i + j, none⟩).isSome = true ∧ w.frozen? ⟨b, o + i + j, none⟩ = false) →
    (∀ x ∈ xs, x.oneCell' = true) → ∃ w', (storeCells ⟨b, o, none⟩ xs i).run P w = .ok () w' ∧
      (∀ j x, xs[j]? = some x → w'.cell? ⟨b, o + i + j, none⟩ = some x) ∧
      (∀ k, (k < o + i ∨ o + i + xs.length ≤ k) → w'.cell? ⟨b, k, none⟩ = w.cell? ⟨b, k, none⟩) ∧
      (∀ p, (w'.cell? p).isSome = (w.cell? p).isSome) ∧ (∀ p, w'.frozen? p = w.frozen? p) ∧ (∀ k, k ≠ b → w'.heap[k]? = w.heap[k]?) ∧ w'.heap.size = w.heap.size ∧
      w'.os = w.os ∧ w'.tape = w.tape ∧ w'.output = w.output ∧ w'.drawn = w.drawn := by
  intro xs
  induction xs with
  | nil => intro i w _ _; exact ⟨w, by simp [storeCells], by simp, fun _ _ => rfl, fun _ => rfl, fun _ => rfl, fun _ _ => rfl, rfl, rfl, rfl, rfl, rfl⟩
  | cons x xs ih =>
    intro i w hc h1
    have h0 := hc 0 (by simp)
    simp only [Nat.add_zero] at h0
    obtain ⟨u, hu⟩ := Option.isSome_iff_exists.1 h0.1
    have hstore : (store ((⟨b, o, none⟩ : Addr).add i) x).run P w = .ok () (w.setCell ⟨b, o + i, none⟩ x) := by
      rw [addr_add, run_store P w _ x _ (h1 x (by simp))]
      simp [hu, h0.2]
    have hsome : ∀ p, ((w.setCell ⟨b, o + i, none⟩ x).cell? p).isSome = (w.cell? p).isSome := by
      intro p
      by_cases hp : (⟨b, o + i, none⟩ : Addr) = p
      · subst hp; rw [World.cell?_setCell_same (h := hu), hu]; rfl
      · rw [World.cell?_setCell_other (h := hp)]
    obtain ⟨w', hr, hn, ho, hso, hf, hblk, hsz, e1, e2, e3, e4⟩ := ih (i + 1) (w.setCell ⟨b, o + i, none⟩ x) (fun j hj => by
      have := hc (j + 1) (by simp; omega)
      rw [show o + (i + 1) + j = o + i + (j + 1) by omega]
      rw [hsome, World.frozen?_setCell]
      exact this) (fun y hy => h1 y (by simp [hy]))
    refine ⟨w', ?_, ?_, ?_, fun p => (hso p).trans (hsome p), fun p => (hf p).trans (by simp), ?_, by simp [hsz], ?_, ?_, ?_, ?_⟩
    · simp only [storeCells, Sem.run_bind, hstore, Result.andThen_ok]; exact hr
    · intro j y hy
      cases j with
      | zero =>
        simp at hy; subst hy
        rw [Nat.add_zero, ho _ (by omega), World.cell?_setCell_same (h := hu)]
      | succ j =>
        simp at hy
        have := hn j y hy
        rw [show o + i + (j + 1) = o + (i + 1) + j by omega]
        exact this
    · intro k hk
      simp only [List.length_cons] at hk
      rw [ho k (by omega), World.cell?_setCell_other]
      intro e
      simp at e
      omega
    · intro k hk
      rw [hblk k hk]
      exact heap_setCell_other w _ k x hk
    · rw [e1]; rfl
    · rw [e2]; rfl
    · rw [e3]; rfl
    · rw [e4]; rfl

theorem setAt_spec : ∀ (vs : List Value) (off : Nat) (xs vs' : List Value), setAt vs off xs = some vs' →
    vs'.length = vs.length ∧ (xs ≠ [] → off + xs.length ≤ vs.length) ∧ ∀ i, vs'[i]? = if off ≤ i ∧ i < off + xs.length then xs[i - off]? else vs[i]?
  | vs, off, [], vs', h => by
    have : setAt vs off [] = some vs := by cases vs <;> rfl
    rw [this] at h
    simp at h; subst h
    refine ⟨rfl, by simp, fun i => ?_⟩
    rw [if_neg (by rintro ⟨h1, h2⟩; simp at h2; omega)]
  | [], off, x :: xs, vs', h => by simp [setAt] at h
  | v :: vs, 0, x :: xs, vs', h => by
    simp only [setAt, Option.map_eq_some_iff] at h
    obtain ⟨r, hr, rfl⟩ := h
    obtain ⟨h1, h2, h3⟩ := setAt_spec vs 0 xs r hr
    refine ⟨by simp [h1], fun _ => ?_, fun i => ?_⟩
    · by_cases hx : xs = []
      · subst hx; simp
      · have := h2 hx; simp; omega
    · cases i with
      | zero => simp
      | succ i =>
        simp only [List.getElem?_cons_succ, h3 i, List.length_cons]
        by_cases hi : i < xs.length
        · rw [if_pos ⟨Nat.zero_le _, by omega⟩, if_pos ⟨Nat.zero_le _, by omega⟩]; simp
        · rw [if_neg (by omega), if_neg (by omega)]
  | v :: vs, k + 1, x :: xs, vs', h => by
    simp only [setAt, Option.map_eq_some_iff] at h
    obtain ⟨r, hr, rfl⟩ := h
    obtain ⟨h1, h2, h3⟩ := setAt_spec vs k (x :: xs) r hr
    refine ⟨by simp [h1], fun _ => ?_, fun i => ?_⟩
    · have := h2 (by simp); simp at this ⊢; omega
    · cases i with
      | zero => rw [if_neg (by omega)]; simp
      | succ i =>
        simp only [List.getElem?_cons_succ, h3 i]
        by_cases hi : k ≤ i ∧ i < k + (x :: xs).length
        · rw [if_pos hi, if_pos (by omega)]; congr 1; omega
        · rw [if_neg hi, if_neg (by omega)]

/-- A row of cells is read. -/
theorem run_loadCells' {P : Program} {w : World} (b o : Nat) (xs : List Value) (h : ∀ j x, xs[j]? = some x → w.cell? ⟨b, o + j, none⟩ = some x) :
    (loadCells ⟨b, o, none⟩ xs.length).run P w = .ok xs.toArray w :=
  run_loadCells_list (P := P) (w := w) ⟨b, o, none⟩ xs (fun j v hj => by rw [addr_add]; exact h j v hj)
end Go.Abs
