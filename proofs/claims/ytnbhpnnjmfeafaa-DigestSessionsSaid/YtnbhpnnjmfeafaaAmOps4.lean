/-
  The abstract machine's operations are the program's: addresses, indexes, comparisons, conversions, append and copy.
-/
import Derived.Test.YtnbhpnnjmfeafaaAmOps3
namespace Go.Abs
set_option linter.unusedVariables false
set_option linter.unusedSimpArgs false
set_option linter.unusedSectionVars false

section
variable {P : Program} {E : Env} {pr : Nat → Prop} {w0 : World} {ng : Nat} {ι : Ren} {μ : Hp} {w : World} (hE : EnvOk P E)
include hE

theorem field_get {s : TypeId} {f : Nat} {fd : Field} (h : fieldOf E s f = some fd) : ∃ fs, E.und s = some (.struct fs) ∧ fs[f]? = some fd := by
  unfold fieldOf at h
  split at h
  · rename_i fs hu; exact ⟨fs, hu, h⟩
  · cases h

theorem fieldAddr_ok {s : TypeId} {f : Nat} {fd : Field} {a : Addr} {n : Nat} (hf : fieldOf E s f = some fd) (hs : E.size fd.type = some (n + 1)) (w : World) :
    (Instr.fieldAt s (.pointer (some (ι.addr a))) f).run P w = .ok (conc ι (.pointer (some (a.add fd.offset)))) w := by
  obtain ⟨fs, hu, hg⟩ := field_get hE hf
  simp only [Instr.fieldAt, Sem.run_bind, hE.run_und hu, Result.andThen_ok, hg, Instr.sureAddr, Sem.run_pure, fieldPlace, hE.run_size hs, conc_ptr, addr_add_conc]
  simp

theorem field_ok {s : TypeId} {f : Nat} {fd : Field} {cs : Array Value} {v : Value} {N : Nat} (hf : fieldOf E s f = some fd) (hp : partA E fd.type cs.toList fd.offset = some v) (hb : ∀ x ∈ cs, Bd N x) (w : World) :
    (Instr.field s (.agg (cs.map (conc ι))) f).run P w = .ok (conc ι v) w ∧ Bd N v := by
  obtain ⟨fs, hu, hg⟩ := field_get hE hf
  obtain ⟨h1, h2⟩ := part_ok (ι := ι) hE hp (fun x hx => hb x (by simpa using hx)) w
  refine ⟨?_, h2⟩
  rw [← List.map_toArray] at h1
  simp only [Instr.field, Sem.run_bind, hE.run_und hu, Result.andThen_ok, hg, asAgg, Sem.run_pure]
  exact h1

theorem indexAddr_ok {t : TypeId} {x i v : Value} {N : Nat} (h : indexAddrA E t x i = some v) (hb : Bd N x) (w : World) :
    (Instr.indexAt t (conc ι x) (conc ι i)).run P w = .ok (conc ι v) w ∧ Bd N v := by
  unfold indexAddrA at h
  split at h
  · rename_i e a len c hu
    cases len with
    | zero => simp at h
    | succ n =>
      cases hn : natOf i n with
      | none => simp [hn] at h
      | some k =>
        cases hs : E.size e with
        | none => simp [hn, hs] at h
        | some s =>
          simp [hn, hs] at h
          subst h
          obtain ⟨kk, j, rfl, h0, h1, rfl⟩ := natOf_run hn
          refine ⟨?_, by simpa [block_add] using hb⟩
          simp only [Instr.indexAt, conc_int, asIntOf, conc_slice, Sem.run_bind, Sem.run_pure, Result.andThen_ok, hE.run_und hu]
          rw [if_pos ⟨h0, by omega⟩]
          simp [hE.run_size hs, addr_add_conc]
  · rename_i n e a hu
    cases hn : natOf i n with
    | none => simp [hn] at h
    | some k =>
      cases hs : E.size e with
      | none => simp [hn, hs] at h
      | some s =>
        simp [hn, hs] at h
        subst h
        obtain ⟨kk, j, rfl, h0, h1, rfl⟩ := natOf_run hn
        refine ⟨?_, by simpa [block_add] using hb⟩
        simp only [Instr.indexAt, conc_int, asIntOf, conc_ptr, Sem.run_bind, Sem.run_pure, Result.andThen_ok, hE.run_und hu, Instr.sureAddr]
        rw [if_pos ⟨h0, by omega⟩]
        simp [hE.run_size hs, addr_add_conc]
  · cases h

theorem index_ok {t : TypeId} {x i v : Value} {N : Nat} (h : indexA E t x i = some v) (hb : Bd N x) (w : World) :
    (Instr.index t (conc ι x) (conc ι i)).run P w = .ok (conc ι v) w ∧ Bd N v := by
  unfold indexA at h
  split at h
  · rename_i n e cs hu
    cases hn : natOf i n with
    | none => simp [hn] at h
    | some k =>
      cases hs : E.size e with
      | none => simp [hn, hs] at h
      | some s =>
        simp only [hn, hs] at h
        obtain ⟨kk, j, rfl, h0, h1, rfl⟩ := natOf_run hn
        simp only [Bd_agg] at hb
        obtain ⟨g1, g2⟩ := part_ok (ι := ι) hE h (fun x hx => hb x (by simpa using hx)) w
        refine ⟨?_, g2⟩
        rw [← List.map_toArray] at g1
        simp only [Instr.index, conc_int, asIntOf, conc_agg, Sem.run_bind, Sem.run_pure, Result.andThen_ok, hE.run_und hu]
        rw [if_pos ⟨h0, by omega⟩]
        simp only [Sem.run_bind, hE.run_size hs, Result.andThen_ok]
        exact g1
  · rename_i s hu
    split at h
    · rename_i kk k
      cases h0 : decide (0 ≤ k) with
      | false => simp [h0] at h
      | true =>
        simp only [h0, cond_true] at h
        split at h
        · rename_i b hbt
          simp at h
          subst h
          refine ⟨?_, by simp⟩
          have h0' := of_decide_eq_true h0
          have hlt : k.toNat < s.size := by
            have h1 := (List.getElem?_eq_some_iff.1 hbt).1
            rw [Array.length_toList] at h1
            exact h1
          have hget : s[k.toNat]? = some b := by
            rw [getElem?_pos s k.toNat hlt]
            have h2 := (List.getElem?_eq_some_iff.1 hbt).2
            rw [← h2]
            rfl
          simp only [Instr.index, conc_int, asIntOf, conc_string, Sem.run_bind, Sem.run_pure, Result.andThen_ok, hE.run_und hu]
          rw [if_pos h0', hget]
          rfl
        · cases h
    · cases h
  · cases h

theorem nilEqIn_ok {t : TypeId} {d : TypeDesc} {x y : Value} {b : Bool} (n : Nat) (hu : E.und t = some d) (h : nilEq d x y = some b) (w : World) :
    (Op.equalIn (n + 1) t (conc ι x) (conc ι y)).run P w = .ok b w := by
  have hun := hE.run_und hu w
  unfold nilEq at h
  split at h <;> simp only [Option.some.injEq, reduceCtorEq] at h <;> subst h
  case h_1 => rename_i e bb; cases bb <;> simp only [conc_nilptr, conc_ptr, Op.equalIn, Sem.run_bind, hun, Result.andThen_ok, Sem.run_pure] <;> rfl
  case h_2 => simp only [conc_nilptr, conc_ptr, Op.equalIn, Sem.run_bind, hun, Result.andThen_ok, Sem.run_pure]
  case h_3 => rename_i bb _ _; cases bb <;> simp only [conc_nilslice, conc_slice, Op.equalIn, Sem.run_bind, hun, Result.andThen_ok, Sem.run_pure] <;> rfl
  case h_4 => simp only [conc_nilslice, conc_slice, Op.equalIn, Sem.run_bind, hun, Result.andThen_ok, Sem.run_pure]
  case h_5 => rename_i bb; cases bb <;> simp only [conc_nilmap, conc_map, Op.equalIn, Sem.run_bind, hun, Result.andThen_ok, Sem.run_pure] <;> rfl
  case h_6 => simp only [conc_nilmap, conc_map, Op.equalIn, Sem.run_bind, hun, Result.andThen_ok, Sem.run_pure]
  all_goals simp only [conc_nilFunc, conc_func, conc_nilIface, conc_iface, Op.equalIn, Sem.run_bind, hun, Result.andThen_ok, Sem.run_pure]
theorem nilEq_ok {t : TypeId} {d : TypeDesc} {x y : Value} {b : Bool} (hu : E.und t = some d) (h : nilEq d x y = some b) (w : World) :
    (Op.equal t (conc ι x) (conc ι y)).run P w = .ok b w := nilEqIn_ok hE 9999 hu h w
theorem ifaceEq_ok {t : TypeId} {ms : Array (String × TypeId)} (n : Nat) (hu : E.und t = some (.interface ms)) (w : World) :
    (Op.equalIn (n + 1) t .nilIface .nilIface).run P w = .ok true w := by
  simp only [Op.equalIn, Sem.run_bind, hE.run_und hu, Result.andThen_ok, Sem.run_pure]
omit hE in
theorem binOp_eql {t : TypeId} {d : TypeDesc} {x y : Value} {b : Bool} (h : nilEq d x y = some b) : binOp .eql t (conc ι x) (conc ι y) = (do pure (.bool (← Op.equal t (conc ι x) (conc ι y)))) := by
  unfold nilEq at h
  split at h <;> simp only [Option.some.injEq, reduceCtorEq] at h
  case h_1 => rename_i bb; cases bb <;> simp only [conc_nilptr, conc_ptr] <;> rfl
  case h_3 => rename_i bb _ _; cases bb <;> simp only [conc_nilslice, conc_slice] <;> rfl
  case h_5 => rename_i bb; cases bb <;> simp only [conc_nilmap, conc_map] <;> rfl
  all_goals simp only [conc_nilptr, conc_ptr, conc_nilslice, conc_slice, conc_nilmap, conc_map, conc_nilFunc, conc_func, conc_nilIface, conc_iface] <;> rfl
omit hE in
theorem binOp_neq {t : TypeId} {d : TypeDesc} {x y : Value} {b : Bool} (h : nilEq d x y = some b) : binOp .neq t (conc ι x) (conc ι y) = (do pure (.bool (!(← Op.equal t (conc ι x) (conc ι y))))) := by
  unfold nilEq at h
  split at h <;> simp only [Option.some.injEq, reduceCtorEq] at h
  case h_1 => rename_i bb; cases bb <;> simp only [conc_nilptr, conc_ptr] <;> rfl
  case h_3 => rename_i bb _ _; cases bb <;> simp only [conc_nilslice, conc_slice] <;> rfl
  case h_5 => rename_i bb; cases bb <;> simp only [conc_nilmap, conc_map] <;> rfl
  all_goals simp only [conc_nilptr, conc_ptr, conc_nilslice, conc_slice, conc_nilmap, conc_map, conc_nilFunc, conc_func, conc_nilIface, conc_iface] <;> rfl
omit hE in
theorem eqGuard_nil {op : BinOp} {t : TypeId} {ox oy : Operand} {d : TypeDesc} {x y : Value} {b : Bool} (h : nilEq d x y = some b) : eqGuard op t ox oy (conc ι x) (conc ι y) = pure () := by
  unfold nilEq at h
  split at h <;> simp only [Option.some.injEq, reduceCtorEq] at h
  case h_1 => rename_i bb; cases bb <;> simp only [conc_nilptr, conc_ptr] <;> exact eqGuard_at_pointer ..
  case h_2 => simp only [conc_ptr]; exact eqGuard_at_pointer ..
  case h_3 => rename_i bb _ _; simp only [conc_nilslice]; exact eqGuard_at_slice ..
  case h_4 => simp only [conc_slice]; exact eqGuard_at_slice ..
  case h_5 => rename_i bb; simp only [conc_nilmap]; exact eqGuard_at_map ..
  case h_6 => simp only [conc_map]; exact eqGuard_at_map ..
  case h_7 => simp only [conc_nilFunc]; exact eqGuard_at_nilFunc ..
  case h_8 => simp only [conc_nilFunc]; exact eqGuard_at_nilFunc ..
  case h_9 => simp only [conc_func]; exact eqGuard_at_func ..
  case h_10 => simp only [conc_nilIface, conc_iface]; exact eqGuard_nil_iface ..
  case h_11 => simp only [conc_iface]; exact eqGuard_at_iface ..

theorem binOp_ok (hS : Sim pr w0 ng ι μ w) {op : BinOp} {t : TypeId} {ox oy : Operand} {x y v : Value} {μ' : Hp} (h : binOpA P E op t ox oy x y μ = .val v μ') :
    Val P pr w0 ng ι μ w (do eqGuard op t ox oy (conc ι x) (conc ι y); binOp op t (conc ι x) (conc ι y)) v μ' := by
  unfold binOpA at h
  split at h
  · split at h
    · rename_i ms hu
      cases hc : (constOp ox || constOp oy) with
      | false => simp [hc] at h
      | true =>
        simp [hc] at h
        obtain ⟨rfl, rfl⟩ := h
        refine Val.same hS ?_ (by simp)
        have hg : (eqGuard .eql t ox oy .nilIface .nilIface) = pure () := by
          cases ox <;> cases oy <;> simp [constOp] at hc <;> first | exact eqGuard_nil_constL .. | exact eqGuard_nil_constR ..
        have he : (Op.equal t .nilIface .nilIface).run P w = .ok true w := ifaceEq_ok hE 9999 hu w
        simp only [conc_nilIface, hg, pure_bind, binOp, Sem.run_bind, conc_bool, he, Result.andThen_ok, Sem.run_pure]
        try rfl
    · cases h
  · split at h
    · rename_i ms hu
      cases hc : (constOp ox || constOp oy) with
      | false => simp [hc] at h
      | true =>
        simp [hc] at h
        obtain ⟨rfl, rfl⟩ := h
        refine Val.same hS ?_ (by simp)
        have hg : (eqGuard .neq t ox oy .nilIface .nilIface) = pure () := by
          cases ox <;> cases oy <;> simp [constOp] at hc <;> first | exact eqGuard_nil_constL .. | exact eqGuard_nil_constR ..
        have he : (Op.equal t .nilIface .nilIface).run P w = .ok true w := ifaceEq_ok hE 9999 hu w
        simp only [conc_nilIface, hg, pure_bind, binOp, Sem.run_bind, conc_bool, he, Result.andThen_ok, Sem.run_pure]
        try rfl
    · cases h
  · cases hf : (flat x && flat y) with
    | true =>
      simp only [hf, cond_true] at h
      simp only [Bool.and_eq_true] at hf
      unfold ofPR at h
      split at h
      · rename_i r hr
        cases hfl : flat r with
        | false => simp [hfl] at h
        | true =>
          simp [hfl] at h
          obtain ⟨rfl, rfl⟩ := h
          have c := conc_flat ι μ.next r hfl
          refine Val.same hS ?_ c.2
          rw [(conc_flat ι 0 x hf.1).1, (conc_flat ι 0 y hf.2).1, c.1]
          exact pureRun_ok hr w
      · rename_i r hr
        cases hfl : flat r <;> simp [hfl] at h
      · cases h
    | false =>
      simp only [hf, cond_false] at h
      cases hu : E.und t with
      | none => simp [hu] at h
      | some d =>
        simp only [hu, Option.bind_some] at h
        cases hn : nilEq d x y with
        | none => simp [hn] at h
        | some b =>
          have heq := nilEq_ok (ι := ι) hE hu hn w
          have hgd := fun o => eqGuard_nil (ι := ι) (op := o) (t := t) (ox := ox) (oy := oy) hn
          rw [hn] at h
          cases op <;> simp only [OR.val.injEq, reduceCtorEq] at h
          case eql =>
            obtain ⟨rfl, rfl⟩ := h
            refine Val.same hS ?_ (by simp)
            simp only [hgd, pure_bind, binOp_eql hn, Sem.run_bind, heq, Result.andThen_ok, Sem.run_pure, conc_bool]
          case neq =>
            obtain ⟨rfl, rfl⟩ := h
            refine Val.same hS ?_ (by simp)
            simp only [hgd, pure_bind, binOp_neq hn, Sem.run_bind, heq, Result.andThen_ok, Sem.run_pure, conc_bool]
end
end Go.Abs
