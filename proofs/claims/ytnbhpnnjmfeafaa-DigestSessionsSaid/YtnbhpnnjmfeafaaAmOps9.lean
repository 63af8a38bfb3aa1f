/-
  The abstract machine's operations are the program's: all of them together.
-/
import Derived.Test.YtnbhpnnjmfeafaaAmOps8
namespace Go.Abs
set_option linter.unusedVariables false
set_option linter.unusedSimpArgs false
set_option linter.unusedSectionVars false

def concD (ι : Ren) (d : Deferred) : Deferred :=
  { target := match d.target with | .fn fn c => .fn fn (c.map (conc ι)) | t => t, args := d.args.map (conc ι) }
def BdD (N : Nat) (d : Deferred) : Prop := (∀ x ∈ d.args, Bd N x) ∧ match d.target with | .fn _ c => ∀ x ∈ c, Bd N x | .collected _ => False | _ => True

section
variable {P : Program} {E : Env} {pr : Nat → Prop} {w0 : World} {ng : Nat} {ι : Ren} {μ : Hp} {w : World} (hE : EnvOk P E)

theorem entry_ok (hS : Sim pr w0 ng ι μ w) {it v : Value} (h : entryA it μ = some v) : (Instr.entry (conc ι it)).run P w = .ok (conc ι v) w ∧ Bd μ.next v := by
  unfold entryA at h
  split at h
  · rename_i r
    split at h
    · rename_i m since seen st hg
      have hobj := hS.obj r _ hg
      split at h
      · rename_i stamp es clock hlast hgm
        have hmo := hS.obj m _ hgm
        have haddr : conc ι (.pointer (some ⟨r, 0, none⟩)) = .pointer (some ⟨(ι.loc r).1, 0, none⟩) := by simp [Ren.addr, hobj.1]
        cases hc : Nat.beq clock st with
        | false => simp [hc] at h
        | true =>
          have hc' := beq_yes hc
          simp only [hc, cond_true] at h
          cases hf : es.find? (fun e => Nat.beq e.born stamp) with
          | none => simp [hf] at h
          | some e =>
            simp only [hf, Option.some.injEq] at h
            subst h
            have hbe := hmo.2.2 e (List.mem_of_find?_eq_some hf)
            refine ⟨?_, by simp; exact hbe⟩
            rw [haddr]
            have hback : seen.toArray.back? = some stamp := by simpa [Array.back?, List.getLast?_eq_getElem?] using hlast
            have hfind : (es.map (concE ι)).toArray.find? (fun e => e.born == stamp) = some (concE ι e) := by
              rw [List.find?_toArray, List.find?_map]
              have : ((fun e : MapEntry => e.born == stamp) ∘ concE ι) = fun e => Nat.beq e.born stamp := by
                funext e
                simp only [Function.comp, concE]
                cases hb : Nat.beq e.born stamp with
                | true => simpa using beq_yes hb
                | false => simpa using Nat.ne_of_beq_eq_false hb
              rw [this, hf]
              rfl
            simp only [Instr.entry, Sem.run_bind, getObj, Sem.run, hobj.2.1, Option.map_some, Sem.run_pure, Result.andThen_ok, hback, hmo.2.1, hc']
            simp [hfind, concE]
      · cases h
    · cases h
  · cases h

include hE
theorem fail_ok {t : TypeId} {v : Value} {ok : Bool} {N : Nat} (h : failA E t ok = some v) : ok = true ∧ ∃ z, v = .tuple #[z, .bool false] ∧ (∀ w, (zeroValue t).run P w = .ok z w) ∧ conc ι z = z ∧ Bd N z := by
  unfold failA at h
  cases ok with
  | false => simp at h
  | true =>
    simp only [cond_true, Option.map_eq_some_iff] at h
    obtain ⟨z, hz, rfl⟩ := h
    obtain ⟨z1, z2⟩ := zero_val hE hz ι N
    exact ⟨rfl, z, rfl, fun w => (hE.run_zero hz w).1, z1, z2⟩
theorem assert_ok {x v : Value} {xt asserted : TypeId} {ok : Bool} {N : Nat} (h : assertA E x asserted ok = some v) (hb : Bd N x) (w : World) :
    (Instr.typeAssert (conc ι x) xt asserted ok).run P w = .ok (conc ι v) w ∧ Bd N v := by
  unfold assertA at h
  cases hu : E.und asserted with
  | none => simp [hu] at h
  | some d =>
    simp only [hu] at h
    have hrun := hE.run_und hu
    cases hw : wantOf d with
    | some want =>
      have hd : d = .interface want := by cases d <;> simp [wantOf] at hw; subst hw; rfl
      subst hd
      simp only [hw] at h
      split at h
      · obtain ⟨rfl, z, rfl, hz, z1, z2⟩ := fail_ok (ι := ι) (N := N) hE h
        simp [Instr.typeAssert, hrun, hz, z1, z2]
      · rename_i t u
        simp only [Bd_iface] at hb
        cases hi : E.info t with
        | none => simp [hi] at h
        | some i =>
          simp only [hi] at h
          have hm : ∀ w, (typeInfo t).run P w = .ok i w := hE.run_info hi
          cases hmm : Instr.missingMethod want i.methods with
          | none =>
            simp only [hmm, Option.some.injEq] at h
            subst h
            cases ok <;> simp [heldA, Instr.typeAssert, hrun, hm, hmm, hb]
          | some mm =>
            simp only [hmm] at h
            obtain ⟨rfl, z, rfl, hz, z1, z2⟩ := fail_ok (ι := ι) (N := N) hE h
            simp [Instr.typeAssert, hrun, hm, hmm, hz, z1, z2]
      · cases h
    | none =>
      simp only [hw] at h
      split at h
      · obtain ⟨rfl, z, rfl, hz, z1, z2⟩ := fail_ok (ι := ι) (N := N) hE h
        refine ⟨?_, by simp [z2]⟩
        simp only [Instr.typeAssert, Sem.run_bind, hrun, Result.andThen_ok, conc_nilIface]
        cases d <;> simp [wantOf] at hw <;> simp [hz, z1]
      · rename_i t u
        simp only [Bd_iface] at hb
        cases ht : Nat.beq t asserted with
        | true =>
          have ht' := beq_yes ht
          simp only [ht, cond_true, Option.some.injEq] at h
          subst h
          refine ⟨?_, by cases ok <;> simp [heldA, hb]⟩
          simp only [Instr.typeAssert, Sem.run_bind, hrun, Result.andThen_ok, conc_iface]
          cases d <;> simp [wantOf] at hw <;> cases ok <;> simp [ht', heldA]
        | false =>
          have ht' := Nat.ne_of_beq_eq_false ht
          simp only [ht, cond_false] at h
          obtain ⟨rfl, z, rfl, hz, z1, z2⟩ := fail_ok (ι := ι) (N := N) hE h
          refine ⟨?_, by simp [z2]⟩
          simp only [Instr.typeAssert, Sem.run_bind, hrun, Result.andThen_ok, conc_iface]
          cases d <;> simp [wantOf] at hw <;> simp [ht', hz, z1]
      · cases h

theorem ofPR_ok (hS : Sim pr w0 ng ι μ w) {s : Sem Value} {v : Value} {μ' : Hp} (h : ofPR μ (pureRun P s) = .val v μ') : μ' = μ ∧ s.run P w = .ok (conc ι v) w ∧ Bd μ.next v := by
  unfold ofPR at h
  split at h
  · rename_i r hr
    cases hfl : flat r with
    | false => simp [hfl] at h
    | true =>
      simp [hfl] at h
      obtain ⟨rfl, rfl⟩ := h
      have c := conc_flat ι μ.next r hfl
      exact ⟨rfl, by rw [c.1]; exact pureRun_ok hr w, c.2⟩
  · rename_i r hr
    cases hfl : flat r <;> simp [hfl] at h
  · cases h
theorem ofPR_pan {s : Sem Value} {v : Value} {μ' : Hp} (h : ofPR μ (pureRun P s) = .pan v μ') (w : World) : μ' = μ ∧ s.run P w = .halt (.panic (conc ι v)) w ∧ Bd μ.next v := by
  unfold ofPR at h
  split at h
  · rename_i r hr
    cases hfl : flat r <;> simp [hfl] at h
  · rename_i r hr
    cases hfl : flat r with
    | false => simp [hfl] at h
    | true =>
      simp [hfl] at h
      obtain ⟨rfl, rfl⟩ := h
      have c := conc_flat ι μ.next r hfl
      exact ⟨rfl, by rw [c.1]; exact pureRun_pan hr w, c.2⟩
  · cases h

theorem binOp_pan {op : BinOp} {t : TypeId} {ox oy : Operand} {x y v : Value} {μ' : Hp} (h : binOpA P E op t ox oy x y μ = .pan v μ') (w : World) :
    μ' = μ ∧ (do eqGuard op t ox oy (conc ι x) (conc ι y); binOp op t (conc ι x) (conc ι y)).run P w = .halt (.panic (conc ι v)) w ∧ Bd μ.next v := by
  unfold binOpA at h
  split at h
  · split at h
    · cases hc : (constOp ox || constOp oy) <;> simp [hc] at h
    · cases h
  · split at h
    · cases hc : (constOp ox || constOp oy) <;> simp [hc] at h
    · cases h
  · cases hf : (flat x && flat y) with
    | true =>
      simp only [hf, cond_true] at h
      simp only [Bool.and_eq_true] at hf
      rw [(conc_flat ι 0 x hf.1).1, (conc_flat ι 0 y hf.2).1]
      exact ofPR_pan hE h w
    | false =>
      simp only [hf, cond_false] at h
      split at h <;> cases h

theorem convert_ok (hS : Sim pr w0 ng ι μ w) {src dst : TypeId} {x v : Value} {μ' : Hp} (h : convertA P E src dst x μ = .val v μ') (hb : Bd μ.next x) :
    Val P pr w0 ng ι μ w (convert src dst (conc ι x)) v μ' := by
  unfold convertA at h
  split at h
  · rename_i d k kk n hu1 hu2
    simp at h
    obtain ⟨rfl, rfl⟩ := h
    refine Val.same hS ?_ (by simp)
    simp only [convert, Sem.run_bind, hE.run_und hu1, hE.run_und hu2, Result.andThen_ok, conc_int, Conv.intToInt]
    cases d <;> rfl
  · rename_i d s hu1 hu2
    simp at h
    obtain ⟨rfl, rfl⟩ := h
    refine Val.same hS ?_ (by simp)
    simp only [convert, Sem.run_bind, hE.run_und hu1, hE.run_und hu2, Result.andThen_ok, conc_string]
    cases d <;> rfl
  · rename_i d e s hu1 hu2
    split at h
    · rename_i he
      cases hn : μ.new (.cells (intList s.data.toList) 1) with
      | none => simp [hn] at h
      | some q =>
        obtain ⟨n, μ1⟩ := q
        simp only [hn, OR.val.injEq] at h
        obtain ⟨rfl, rfl⟩ := h
        rw [conc_string]
        exact toBytes_ok hE hS hu1 hu2 he hn
    · cases h
  · rename_i e l c hu1 hu2
    split at h
    · rename_i he
      simp at h
      obtain ⟨rfl, rfl⟩ := h
      refine Val.same hS ?_ (by simp)
      rw [conc_nilslice, conc_string]
      exact run_convert_bytes_nil w src e (hE.und hu1) (hE.und he) l c dst (hE.und hu2)
    · cases h
  · rename_i e a len c hu1 hu2
    split at h
    · rename_i vs he hf
      split at h
      · rename_i l hl
        simp at h
        obtain ⟨rfl, rfl⟩ := h
        refine Val.same hS ?_ (by simp)
        rw [conc_string]
        exact toString_ok hE hS hu1 hu2 he hf hb hl
      · cases h
    · cases h
  · have := ofPR_ok hE hS h
    obtain ⟨rfl, h1, h2⟩ := this
    exact Val.same hS (by simpa using h1) h2
  · have := ofPR_ok hE hS h
    obtain ⟨rfl, h1, h2⟩ := this
    exact Val.same hS (by simpa using h1) h2
  · cases h
end
end Go.Abs
