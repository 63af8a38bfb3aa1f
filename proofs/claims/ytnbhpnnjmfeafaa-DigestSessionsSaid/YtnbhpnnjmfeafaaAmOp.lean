/-
  The abstract machine's operations are the program's: one theorem for all.
-/
import Derived.Test.YtnbhpnnjmfeafaaAmOps9
namespace Go.Abs
set_option linter.unusedVariables false
set_option linter.unusedSimpArgs false
set_option linter.unusedSectionVars false

/-- What an operation does, by what the abstract machine says of it. -/
def OpRel (P : Program) (pr : Nat → Prop) (w0 : World) (ng : Nat) (ι : Ren) (μ : Hp) (w : World) (s : Sem Next) : OR → Prop
  | .val v μ' => ∃ ι' w', (s.run P w = .ok (.value (conc ι' v)) w' ∨ (s.run P w = .ok .skip w' ∧ v = undef)) ∧ Sim pr w0 ng ι' μ' w' ∧ Ext μ.next ι ι' ∧ μ.next ≤ μ'.next ∧ Bd μ'.next v
  | .call f args μ' => μ' = μ ∧ s.run P w = .ok (.enter f (args.map (conc ι)).toArray) w ∧ ∀ x ∈ args, Bd μ.next x
  | .dfr d μ' => μ' = μ ∧ s.run P w = .ok (.defer (concD ι d)) w ∧ BdD μ.next d
  | .pan v μ' => μ' = μ ∧ s.run P w = .halt (.panic (conc ι v)) w ∧ Bd μ.next v
  | .no => True

section
variable {P : Program} {E : Env} {pr : Nat → Prop} {w0 : World} {ι : Ren} {μ : Hp} {w : World} (hE : EnvOk P E) {ng : Nat}

theorem OpRel.ofVal {s : Sem Value} {r : Option (Value × Hp)} (h : ∀ v μ', r = some (v, μ') → Val P pr w0 ng ι μ w s v μ') : OpRel P pr w0 ng ι μ w (do pure (.value (← s))) (Abs.ofVal r) := by
  cases r with
  | none => trivial
  | some q =>
    obtain ⟨v, μ'⟩ := q
    obtain ⟨ι', w', h1, h2, h3, h4, h5⟩ := h v μ' rfl
    exact ⟨ι', w', .inl (by simp [h1]), h2, h3, h4, h5⟩
theorem OpRel.ofV (hS : Sim pr w0 ng ι μ w) {s : Sem Value} {r : Option Value} (h : ∀ v, r = some v → s.run P w = .ok (conc ι v) w ∧ Bd μ.next v) : OpRel P pr w0 ng ι μ w (do pure (.value (← s))) (Abs.ofV μ r) := by
  cases r with
  | none => trivial
  | some v =>
    obtain ⟨h1, h2⟩ := h v rfl
    exact ⟨ι, w, .inl (by simp [h1]), hS, Ext.refl _ _, Nat.le_refl _, h2⟩
theorem OpRel.ofHp {s : Sem Unit} {r : Option Hp} (h : ∀ μ', r = some μ' → Unt P pr w0 ng ι μ w s μ') : OpRel P pr w0 ng ι μ w (do s; pure .skip) (Abs.ofHp r) := by
  cases r with
  | none => trivial
  | some μ' =>
    obtain ⟨ι', w', h1, h2, h3, h4⟩ := h μ' rfl
    exact ⟨ι', w', .inr ⟨by simp [h1], rfl⟩, h2, h3, h4, by simp⟩
theorem OpRel.val {s : Sem Value} {v : Value} {μ' : Hp} (h : Val P pr w0 ng ι μ w s v μ') : OpRel P pr w0 ng ι μ w (do pure (.value (← s))) (.val v μ') := by
  obtain ⟨ι', w', h1, h2, h3, h4, h5⟩ := h
  exact ⟨ι', w', .inl (by simp [h1]), h2, h3, h4, h5⟩
theorem OpRel.same (hS : Sim pr w0 ng ι μ w) {s : Sem Value} {v : Value} (h : s.run P w = .ok (conc ι v) w) (hb : Bd μ.next v) : OpRel P pr w0 ng ι μ w (do pure (.value (← s))) (.val v μ) :=
  OpRel.val (Val.same hS h hb)

include hE
theorem OpRel.ofPR (hS : Sim pr w0 ng ι μ w) {s : Sem Value} : OpRel P pr w0 ng ι μ w (do pure (.value (← s))) (Abs.ofPR μ (pureRun P s)) := by
  cases h : Abs.ofPR μ (pureRun P s) with
  | val v μ' => obtain ⟨rfl, h1, h2⟩ := ofPR_ok (ι := ι) hE hS h; exact OpRel.same hS h1 h2
  | pan v μ' => obtain ⟨rfl, h1, h2⟩ := ofPR_pan (ι := ι) hE h w; exact ⟨rfl, by simp [h1], h2⟩
  | call f a μ' => unfold Abs.ofPR at h; split at h <;> (try (rename_i r _; cases hfl : flat r <;> simp [hfl] at h)) <;> simp at h
  | dfr d μ' => unfold Abs.ofPR at h; split at h <;> (try (rename_i r _; cases hfl : flat r <;> simp [hfl] at h)) <;> simp at h
  | no => trivial

theorem ofPR_kind {r : PR Value} : (∃ v μ', Abs.ofPR μ r = .val v μ') ∨ (∃ v μ', Abs.ofPR μ r = .pan v μ') ∨ Abs.ofPR μ r = .no := by
  unfold Abs.ofPR
  split
  · rename_i r
    cases hfl : flat r
    · exact .inr (.inr rfl)
    · exact .inl ⟨_, _, rfl⟩
  · rename_i r
    cases hfl : flat r
    · exact .inr (.inr rfl)
    · exact .inr (.inl ⟨_, _, rfl⟩)
  · exact .inr (.inr rfl)
theorem binOp_rel (hS : Sim pr w0 ng ι μ w) (op : BinOp) (t : TypeId) (ox oy : Operand) (x y : Value) :
    OpRel P pr w0 ng ι μ w (do pure (.value (← (do eqGuard op t ox oy (conc ι x) (conc ι y); binOp op t (conc ι x) (conc ι y))))) (binOpA P E op t ox oy x y μ) := by
  cases h : binOpA P E op t ox oy x y μ with
  | val v μ' => exact OpRel.val (binOp_ok hE hS h)
  | pan v μ' => obtain ⟨rfl, h1, h2⟩ := binOp_pan (ι := ι) hE h w; exact ⟨rfl, by simp only [Sem.run_bind, h1]; rfl, h2⟩
  | no => trivial
  | call f a μ' =>
    exfalso
    unfold binOpA at h
    split at h
    · split at h <;> (try (rename_i hc; cases hcc : (constOp ox || constOp oy) <;> simp [hcc] at h)) <;> cases h
    · split at h <;> (try (rename_i hc; cases hcc : (constOp ox || constOp oy) <;> simp [hcc] at h)) <;> cases h
    · cases hf : (flat x && flat y) with
      | true =>
        simp only [hf, cond_true] at h
        rcases ofPR_kind (P := P) (E := E) (μ := μ) hE (r := pureRun P (do eqGuard op t ox oy x y; binOp op t x y)) with ⟨v, m, hk⟩ | ⟨v, m, hk⟩ | hk <;> rw [hk] at h <;> cases h
      | false => simp only [hf, cond_false] at h; split at h <;> cases h
  | dfr d μ' =>
    exfalso
    unfold binOpA at h
    split at h
    · split at h <;> (try (rename_i hc; cases hcc : (constOp ox || constOp oy) <;> simp [hcc] at h)) <;> cases h
    · split at h <;> (try (rename_i hc; cases hcc : (constOp ox || constOp oy) <;> simp [hcc] at h)) <;> cases h
    · cases hf : (flat x && flat y) with
      | true =>
        simp only [hf, cond_true] at h
        rcases ofPR_kind (P := P) (E := E) (μ := μ) hE (r := pureRun P (do eqGuard op t ox oy x y; binOp op t x y)) with ⟨v, m, hk⟩ | ⟨v, m, hk⟩ | hk <;> rw [hk] at h <;> cases h
      | false => simp only [hf, cond_false] at h; split at h <;> cases h
theorem convert_rel (hS : Sim pr w0 ng ι μ w) (src dst : TypeId) (x : Value) (hb : Bd μ.next x) :
    OpRel P pr w0 ng ι μ w (do pure (.value (← convert src dst (conc ι x)))) (convertA P E src dst x μ) := by
  cases h : convertA P E src dst x μ with
  | val v μ' => exact OpRel.val (convert_ok hE hS h hb)
  | no => trivial
  | pan v μ' =>
    unfold convertA at h
    split at h <;> (try (simp at h; done))
    · split at h <;> (try (split at h)) <;> simp at h
    · split at h <;> simp at h
    · split at h <;> (try (split at h)) <;> simp at h
    all_goals
      obtain ⟨rfl, h1, h2⟩ := ofPR_pan (ι := ι) hE h w
      exact ⟨rfl, by simp only [conc_int, conc_float, Sem.run_bind, h1]; rfl, h2⟩
  | call f a μ' =>
    exfalso
    unfold convertA at h
    split at h <;> (try (simp at h; done))
    · split at h <;> (try (split at h)) <;> simp at h
    · split at h <;> simp at h
    · split at h <;> (try (split at h)) <;> simp at h
    all_goals
      rcases ofPR_kind (P := P) (E := E) (μ := μ) hE (r := pureRun P (convert src dst _)) with ⟨v, m, hk⟩ | ⟨v, m, hk⟩ | hk <;> rw [hk] at h <;> cases h
  | dfr d μ' =>
    exfalso
    unfold convertA at h
    split at h <;> (try (simp at h; done))
    · split at h <;> (try (split at h)) <;> simp at h
    · split at h <;> simp at h
    · split at h <;> (try (split at h)) <;> simp at h
    all_goals
      rcases ofPR_kind (P := P) (E := E) (μ := μ) hE (r := pureRun P (convert src dst _)) with ⟨v, m, hk⟩ | ⟨v, m, hk⟩ | hk <;> rw [hk] at h <;> cases h
theorem flats_conc {args : List Value} (h : args.all flat = true) (ι : Ren) : args.map (conc ι) = args := by
  have : args.map (conc ι) = args.map id := List.map_congr_left fun x hx => (conc_flat ι 0 x (List.all_eq_true.1 h x hx)).1
  simpa using this
theorem builtin_rel (hS : Sim pr w0 ng ι μ w) (b : Builtin) (ts : Array TypeId) (ty : TypeId) (cs : Array Bool) (args : List Value) (hb : ∀ x ∈ args, Bd μ.next x) :
    OpRel P pr w0 ng ι μ w (builtin b ts ty cs (args.map (conc ι)).toArray) (builtinA P E b ts.toList ty args μ) := by
  have hts : ts = ⟨ts.toList⟩ := rfl
  unfold builtinA
  split
  · exact OpRel.ofVal fun v μ' h => append_ok hE hS h hb
  · exact OpRel.ofVal fun v μ' h => copy_ok hE hS h hb
  · exact OpRel.ofV hS fun v h => lenB_ok hE hS h
  · exact OpRel.ofV hS fun v h => capB_ok hE h w
  · exact OpRel.ofVal fun v μ' h => delete_ok hE hS h
  · cases hf : args.all flat with
    | false => trivial
    | true =>
      rw [flats_conc hE hf]
      exact OpRel.ofPR hE hS (s := Builtin.min_ ts ty ⟨args⟩)
  · cases hf : args.all flat with
    | false => trivial
    | true =>
      rw [flats_conc hE hf]
      exact OpRel.ofPR hE hS (s := Builtin.max_ ts ty ⟨args⟩)
  · trivial

theorem nilCheck_run {x v : Value} (h : nilCheckA x = some v) : v = x ∧ (∀ (F : Value → Sem Next) (k : Sem Next) , (match conc ι x with
    | .pointer none | .nilIface | .nilFunc => k
    | .func (.method name) first captured => F (conc ι x)
    | y => pure (.value y) : Sem Next) = pure (.value (conc ι x))) := by
  match x, h with
  | .pointer none, h | .nilIface, h | .nilFunc, h => simp [nilCheckA] at h
  | .func (.method m) f c, h => simp [nilCheckA] at h
  | .func (.func g) f c, h => simp [nilCheckA] at h; subst h; exact ⟨rfl, fun F k => by simp⟩
  | .func (.methodOf t m) f c, h => simp [nilCheckA] at h; subst h; exact ⟨rfl, fun F k => by simp⟩
  | .func (.via t p f' b) f c, h => simp [nilCheckA] at h; subst h; exact ⟨rfl, fun F k => by simp⟩
  | .func (.yield l) f c, h => simp [nilCheckA] at h; subst h; exact ⟨rfl, fun F k => by simp⟩
  | .pointer (some a), h | .slice (some a) _ _, h | .map (some r), h | .iface t u, h | .agg cs, h | .tuple cs, h => simp [nilCheckA] at h; subst h; exact ⟨rfl, fun F k => by simp⟩
  | .chan r, h => simp [nilCheckA] at h; subst h; exact ⟨rfl, fun F k => by simp [conc]⟩
  | .bool _, h | .int _ _, h | .float _ _, h | .complex _ _ _, h | .string _, h | .slice none _ _, h | .map none, h => simp [nilCheckA] at h; subst h; exact ⟨rfl, fun F k => by simp⟩

theorem nilCheck_exec {x v : Value} (h : nilCheckA x = some v) (ρ : Operand → Value) (y : Operand) (hρ : ρ y = conc ι x) (dst : Option Tmp) (type : TypeId) (pos : String) (after : Array Edge) (guard : Option (Nat × Bool)) :
    execOp ρ { dst, op := .nilCheck y, type, pos, after, guard } = pure (.value (conc ι x)) := by
  match x, h with
  | .pointer none, h | .nilIface, h | .nilFunc, h => simp [nilCheckA] at h
  | .func (.method m) f c, h => simp [nilCheckA] at h
  | .func (.func g) f c, h => simp [execOp, hρ]
  | .func (.methodOf t m) f c, h => simp [execOp, hρ]
  | .func (.via t p f' b) f c, h => simp [execOp, hρ]
  | .func (.yield l) f c, h => simp [execOp, hρ]
  | .pointer (some a), h | .slice (some a) _ _, h | .map (some r), h | .iface t u, h | .agg cs, h | .tuple cs, h => simp [execOp, hρ]
  | .chan r, h => simp [execOp, hρ, conc]
  | .bool _, h | .int _ _, h | .float _ _, h | .complex _ _ _, h | .string _, h | .slice none _ _, h | .map none, h => simp [execOp, hρ]
omit hE in
theorem parts_map (ι : Ren) (ev : Operand → Value) (parts : Array (Nat × Operand)) : (parts.map fun (i, x) => (i, conc ι (ev x))) = ((parts.toList.map fun (i, x) => (i, ev x)).map fun p => (p.1, conc ι p.2)).toArray := by
  apply Array.ext'
  simp

theorem op_rel (hS : Sim pr w0 ng ι μ w) (o : Oper) (ρ ev : Operand → Value) (hρ : ∀ x ∈ o.op.operands, okOpnd E x = true → ρ x = conc ι (ev x) ∧ Bd μ.next (ev x)) :
    OpRel P pr w0 ng ι μ w (execOp ρ o) (opA P E ev o μ) := by
  unfold opA
  cases hops : o.op.operands.toList.all (okOpnd E) with
  | false => trivial
  | true =>
    simp only [cond_true]
    have hok : ∀ x ∈ o.op.operands, okOpnd E x = true := fun x hx => List.all_eq_true.1 hops x (by simpa using hx)
    by_cases hsel : ∃ cs b, o.op = .select cs b
    · obtain ⟨cs, b, hs⟩ := hsel
      simp only [hs]
      trivial
    · rw [execOp_congr (ρ' := fun x => conc ι (ev x)) o (fun cs b h => hsel ⟨cs, b, h⟩) (fun x hx => (hρ x hx (hok x hx)).1)]
      have hbd : ∀ x ∈ o.op.operands, Bd μ.next (ev x) := fun x hx => (hρ x hx (hok x hx)).2
      clear hρ hok hops hsel
      obtain ⟨dst, op, type, pos, after, guard⟩ := o
      cases op <;> simp only [Op.operands] at hbd <;> simp only [execOp] <;> try trivial
      case move x => exact OpRel.same hS (s := pure (conc ι (ev x))) rfl (hbd x (by simp))
      case assign x => exact OpRel.same hS (s := pure (conc ι (ev x))) rfl (hbd x (by simp))
      case pick c a b =>
        split
        · rename_i hc
          refine ⟨ι, w, .inl ?_, hS, Ext.refl _ _, Nat.le_refl _, hbd a (by simp)⟩
          simp [hc, asBool]
        · rename_i hc
          refine ⟨ι, w, .inl ?_, hS, Ext.refl _ _, Nat.le_refl _, hbd b (by simp)⟩
          simp [hc, asBool]
        · trivial
      case alloc t =>
        split
        · rename_i z hz
          refine OpRel.ofVal fun v μ' h => ?_
          obtain ⟨z1, z2⟩ := zero_val hE hz ι μ.next
          obtain ⟨ι', w', h1, h2, h3, h4, h5⟩ := newVar_ok (P := P) hS h z2 t
          refine ⟨ι', w', ?_, h2, h3, h4, h5⟩
          rw [z1] at h1
          simp only [Sem.run_bind, Instr.alloc, (hE.run_zero hz _).1, Result.andThen_ok] at h1 ⊢
          exact h1
        · trivial
      case box t x =>
        exact OpRel.ofVal fun v μ' h => newVar_ok (P := P) hS h (hbd x (by simp)) t
      case build t parts =>
        refine OpRel.ofV hS fun v h => ?_
        rw [parts_map]
        exact build_ok (ι := ι) (N := μ.next) hE h (fun p hp => by
          obtain ⟨q, hq, rfl⟩ := List.mem_map.1 hp
          exact hbd q.2 (by simp; exact ⟨q.1, by simpa using hq⟩)) w
      case buildSlice t len parts =>
        refine OpRel.ofVal fun v μ' h => ?_
        rw [parts_map]
        exact buildSlice_ok hE hS h (fun p hp => by
          obtain ⟨q, hq, rfl⟩ := List.mem_map.1 hp
          exact hbd q.2 (by simp; exact ⟨q.1, by simpa using hq⟩))
      case insert t m k x => exact OpRel.ofHp fun μ' h => update_ok hE hS h (hbd k (by simp)) (hbd x (by simp))
      case load t a =>
        split
        · rename_i ad ha
          refine OpRel.ofV hS fun v h => ?_
          rw [ha, conc_ptr]
          exact load_ok hE hS h
        · trivial
      case store t a x =>
        split
        · rename_i ad ha
          refine OpRel.ofHp fun μ' h => ?_
          rw [ha, conc_ptr]
          exact store_ok hE hS h (hbd x (by simp))
        · trivial
      case nilCheck x =>
        cases h : nilCheckA (ev x) with
        | none => trivial
        | some v =>
          obtain ⟨rfl, hr⟩ := nilCheck_run (ι := ι) hE h
          refine ⟨ι, w, .inl ?_, hS, Ext.refl _ _, Nat.le_refl _, hbd x (by simp)⟩
          exact congrArg (fun s : Sem Next => s.run P w) (nilCheck_exec (ι := ι) hE h (fun x => conc ι (ev x)) x rfl dst type pos after guard)
      case binOp op t x y yt => exact binOp_rel hE hS op t x y (ev x) (ev y)
      case unOp op t x =>
        cases hf : flat (ev x) with
        | false => trivial
        | true =>
          simp only [cond_true]
          rw [(conc_flat ι 0 _ hf).1]
          exact OpRel.ofPR hE hS
      case convert src dst x => exact convert_rel hE hS src dst (ev x) (hbd x (by simp))
      case makeInterface t x =>
        split
        · trivial
        · rename_i d hni hu
          refine OpRel.same hS ?_ (by simpa using hbd x (by simp))
          simp only [Instr.makeInterface, Sem.run_bind, hE.run_und hu, Result.andThen_ok, conc_iface]
          cases d <;> first | rfl | exact absurd rfl (hni _)
        · trivial
      case makeFunc fn first captured =>
        refine OpRel.same hS (s := Instr.makeFunc fn (first.map fun x => conc ι (ev x)) (captured.map fun x => conc ι (ev x))) ?_ ?_
        · simp only [Instr.makeFunc, Sem.run_pure, conc_func]
          congr 2
          · apply Array.ext'; simp
          · apply Array.ext'; simp
        · simp only [Bd_func]
          refine ⟨fun y hy => ?_, fun y hy => ?_⟩
          · simp at hy
            obtain ⟨z, hz, rfl⟩ := hy
            exact hbd z (by simp [hz])
          · simp at hy
            obtain ⟨z, hz, rfl⟩ := hy
            exact hbd z (by simp [hz])
      case makeMap t r =>
        have fin : ∀ (n : Nat) (μ1 : Hp), μ.new (.map [] 0) = some (n, μ1) → ∀ s : Sem Value, s.run P w = .ok (.map (some w.heap.size)) (w.alloc (.map #[] 0)) → Val P pr w0 ng ι μ w s (.map (some n)) μ1 := by
          intro n μ1 hn s hs
          obtain ⟨hS', hx, hnx, rfl⟩ := hS.alloc hn (.map #[] 0) 0 ⟨by simp [Ren.upd, (Hp.new_eq hn).1], by rw [(Hp.new_eq hn).1, upd_heap]; rfl, by simp⟩
          exact ⟨_, _, by rw [hs]; simp [Ren.upd], hS', hx, by omega, by simp [hnx]⟩
        split
        · rename_i k e hu
          refine OpRel.ofVal fun v μ' h => ?_
          split at h
          · rename_i n μ1 hn
            simp only [Option.some.injEq, Prod.mk.injEq] at h
            obtain ⟨rfl, rfl⟩ := h
            exact fin n μ1 hn _ (by simp [Instr.makeMap])
          · cases h
        · rename_i k e r hu
          split
          · rename_i kk i hi
            refine OpRel.ofVal fun v μ' h => ?_
            split at h
            · rename_i n μ1 hn
              simp only [Option.some.injEq, Prod.mk.injEq] at h
              obtain ⟨rfl, rfl⟩ := h
              exact fin n μ1 hn _ (by simp [Instr.makeMap, hE.run_und hu, hi, asInt, asIntOf])
            · cases h
          · trivial
        · trivial
      case makeSlice t l c => exact OpRel.ofVal fun v μ' h => makeSlice_ok hE hS h
      case slice t x lo hi mx =>
        refine OpRel.ofVal fun v μ' h => ?_
        have := slice_ok hE hS h (hbd x (by simp))
        simpa only [Option.map_map, Function.comp_def] using this
      case fieldAddr s x f =>
        split
        · rename_i a fd ha hf
          split
          · trivial
          · rename_i n hn
            refine OpRel.same hS ?_ (by have := hbd x (by simp); rw [ha] at this; simpa [block_add] using this)
            rw [ha, conc_ptr]
            exact fieldAddr_ok (ι := ι) hE hf hn w
          · trivial
        · trivial
      case field t x f =>
        split
        · rename_i cs fd ha hf
          refine OpRel.ofV hS fun v h => ?_
          rw [ha, conc_agg]
          exact field_ok (ι := ι) hE hf h (by have := hbd x (by simp); rw [ha] at this; simpa using this) w
        · trivial
      case indexAddr t x i => exact OpRel.ofV hS fun v h => indexAddr_ok hE h (hbd x (by simp)) w
      case index t x i => exact OpRel.ofV hS fun v h => index_ok hE h (hbd x (by simp)) w
      case lookup t x i ok => exact OpRel.ofV hS fun v h => lookup_ok hE hS h
      case mapUpdate t m k x => exact OpRel.ofHp fun μ' h => update_ok hE hS h (hbd k (by simp)) (hbd x (by simp))
      case range t x => exact OpRel.ofVal fun v μ' h => range_ok hE hS h (hbd x (by simp))
      case next it isS => exact OpRel.ofVal fun v μ' h => next_ok hS h
      case entry it => exact OpRel.ofV hS fun v h => entry_ok hS h
      case typeAssert x xt asserted ok => exact OpRel.ofV hS fun v h => assert_ok hE h (hbd x (by simp)) w
      case extract x i =>
        split
        · rename_i vs ht
          refine OpRel.ofV hS fun v h => ?_
          have hb := hbd x (by simp)
          rw [ht] at hb ⊢
          simp only [Bd_tuple] at hb
          have h' : vs[i]? = some v := by simpa using h
          refine ⟨?_, hb v (Array.mem_of_getElem? h')⟩
          simp [Instr.extract, h']
        · trivial
      case call c =>
        obtain ⟨callee, args, argTypes⟩ := c
        have hargs : ∀ x ∈ args.toList.map ev, Bd μ.next x := by
          intro y hy
          obtain ⟨z, hz, rfl⟩ := List.mem_map.1 hy
          exact hbd z (by simp only [Call.operands, Array.mem_append]; right; simpa using hz)
        have hmap : args.map (fun x => conc ι (ev x)) = ((args.toList.map ev).map (conc ι)).toArray := by apply Array.ext'; simp
        cases callee with
        | builtin b =>
          simp only [resolve, hmap, Sem.run_bind, pure_bind, invoke]
          exact builtin_rel hE hS b argTypes type _ _ hargs
        | value f =>
          have hf := hbd f (by simp [Call.operands])
          simp only [resolve, hmap]
          cases hv : valueCall (ev f) (args.toList.map ev) with
          | none => trivial
          | some q =>
            obtain ⟨g, as⟩ := q
            cases hg : (E.fn g).isSome with
            | false => simp only [hg, cond_false]; trivial
            | true =>
              simp only [hg, cond_true]
              unfold valueCall at hv
              split at hv
              · rename_i g' first captured hev
                simp only [Option.some.injEq, Prod.mk.injEq] at hv
                obtain ⟨rfl, rfl⟩ := hv
                rw [hev] at hf ⊢
                simp only [Bd_func] at hf
                obtain ⟨fn, hfn⟩ := Option.isSome_iff_exists.1 hg
                obtain ⟨h1, h2, h3⟩ := hE.fn g' fn hfn
                refine ⟨rfl, ?_, ?_⟩
                · simp only [conc_func, Deferred.ofValue, Sem.run_bind, Sem.run_pure, Result.andThen_ok, invoke, callFunc, run_program, h1, h3, Bool.false_eq_true, if_false]
                  rw [if_neg (by cases hbb : fn.body <;> simp_all)]
                  simp only [Sem.run_pure]
                  congr 2
                  apply Array.ext'
                  simp
                · intro y hy
                  simp only [List.mem_append] at hy
                  rcases hy with (hy | hy) | hy
                  · exact hf.1 y (by simpa using hy)
                  · exact hargs y hy
                  · exact hf.2 y (by simpa using hy)
              · cases hv
        | invoke r m => trivial
      case defer c =>
        obtain ⟨callee, args, argTypes⟩ := c
        cases callee with
        | value f =>
          have hf := hbd f (by simp [Call.operands])
          simp only
          split
          · rename_i fn first captured hev
            rw [hev] at hf
            simp only [Bd_func] at hf
            refine ⟨rfl, ?_, ?_, ?_⟩
            · simp only [resolve, hev, conc_func, Deferred.ofValue, Sem.run_bind, Sem.run_pure, Result.andThen_ok, concD]
              congr 3
              apply Array.ext'
              simp
            · intro y hy
              simp only [List.mem_toArray, List.mem_append, List.mem_map] at hy
              rcases hy with hy | ⟨z, hz, rfl⟩
              · exact hf.1 y (by simpa using hy)
              · exact hbd z (by simp [Call.operands]; right; simpa using hz)
            · exact hf.2
          · trivial
        | _ => trivial
      case panic x =>
        split
        · rename_i t u hu
          refine ⟨rfl, ?_, by have := hbd x (by simp); rwa [hu] at this⟩
          rw [hu]
          simp [Instr.panic]
        · trivial
end
end Go.Abs
