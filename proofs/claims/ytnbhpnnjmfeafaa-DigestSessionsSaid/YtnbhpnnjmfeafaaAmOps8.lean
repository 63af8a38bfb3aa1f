/-
  The abstract machine's operations are the program's: maps, ranges, assertions.
-/
import Derived.Test.YtnbhpnnjmfeafaaAmOps7
namespace Go.Abs
set_option linter.unusedVariables false
set_option linter.unusedSimpArgs false
set_option linter.unusedSectionVars false

section
variable {P : Program} {E : Env} {pr : Nat → Prop} {w0 : World} {ng : Nat} {ι : Ren} {μ : Hp} {w : World} (hE : EnvOk P E)

def Found (ι : Ren) (es : List MapEntry) (r : Option Nat) (i : Nat) (res : Option (Nat × Value)) : Prop :=
  match r with
  | none => res = none
  | some j => ∃ e, i ≤ j ∧ es[j - i]? = some e ∧ res = some (j, conc ι e.val)
theorem Found.cons {es : List MapEntry} {r : Option Nat} {i : Nat} {res : Option (Nat × Value)} (e : MapEntry) (h : Found ι es r (i + 1) res) : Found ι (e :: es) r i res := by
  unfold Found at *
  cases r with
  | none => exact h
  | some j =>
    obtain ⟨e', h1, h2, h3⟩ := h
    refine ⟨e', by omega, ?_, h3⟩
    rw [show j - i = (j - (i + 1)) + 1 by omega]
    simpa using h2
theorem sameNow_scalar {kd : TypeDesc} {a b : Value} (h : scalarKey kd = false) : Instr.sameNow kd a b = none := by
  cases kd <;> simp [scalarKey] at h <;> rfl

theorem findA_now (kd : TypeDesc) (kt : TypeId) (k : Value) : ∀ (es : List MapEntry) (i : Nat) (r : Option Nat), (∀ e ∈ es, flat e.key = true) → (∀ e ∈ es, (Instr.sameNow kd k e.key).isSome = true) →
    findA P kd kt k es i = some r → ∃ res, Instr.findNow kd k (es.map (concE ι)) i = some res ∧ Found ι es r i res
  | [], i, r, _, _, h => by simp [findA] at h; subst h; exact ⟨none, rfl, rfl⟩
  | e :: es, i, r, hf, hs, h => by
    have hk := (conc_flat ι 0 e.key (hf e (by simp))).1
    obtain ⟨b, hb⟩ := Option.isSome_iff_exists.1 (hs e (by simp))
    cases b with
    | true =>
      simp only [findA, hb, Option.some.injEq] at h
      subst h
      refine ⟨some (i, conc ι e.val), ?_, e, Nat.le_refl _, by simp, rfl⟩
      simp [Instr.findNow, concE, hk, hb]
    | false =>
      simp only [findA, hb] at h
      obtain ⟨res, h1, h2⟩ := findA_now kd kt k es (i + 1) r (fun e he => hf e (by simp [he])) (fun e he => hs e (by simp [he])) h
      refine ⟨res, ?_, h2.cons e⟩
      simp [Instr.findNow, concE, hk, hb, h1]
theorem findA_asking (kd : TypeDesc) (kt : TypeId) (k : Value) (hsc : scalarKey kd = false) (w : World) : ∀ (es : List MapEntry) (i : Nat) (r : Option Nat), (∀ e ∈ es, flat e.key = true) →
    findA P kd kt k es i = some r → ∃ res, (Instr.findAsking kt k (es.map (concE ι)) i).run P w = .ok res w ∧ Found ι es r i res
  | [], i, r, _, h => by simp [findA] at h; subst h; exact ⟨none, rfl, rfl⟩
  | e :: es, i, r, hf, h => by
    have hfe := hf e (by simp)
    have hk := (conc_flat ι 0 e.key hfe).1
    simp only [findA, sameNow_scalar hsc, hfe, cond_true] at h
    split at h
    · rename_i heq
      simp at h
      subst h
      refine ⟨some (i, conc ι e.val), ?_, e, Nat.le_refl _, by simp, rfl⟩
      simp [Instr.findAsking, concE, hk, pureRun_ok heq w]
    · rename_i heq
      obtain ⟨res, h1, h2⟩ := findA_asking kd kt k hsc w es (i + 1) r (fun e he => hf e (by simp [he])) h
      refine ⟨res, ?_, h2.cons e⟩
      simp [Instr.findAsking, concE, hk, pureRun_ok heq w, h1]
    · cases h

include hE
theorem key_ok {kt : TypeId} {k : Value} {es : List MapEntry} {r : Option Nat} (h : keyA P E kt k es = some r) (w : World) :
    conc ι k = k ∧ (∀ e ∈ es, conc ι e.key = e.key) ∧ (∀ b, (Instr.checkKey b 10000 kt k).run P w = .ok () w) ∧ ∃ res, (Instr.findKey kt k (es.map (concE ι))).run P w = .ok res w ∧ Found ι es r 0 res := by
  unfold keyA at h
  cases hu : E.und kt with
  | none => simp [hu] at h
  | some kd =>
    simp only [hu] at h
    cases hc : (flat k && (es.all fun e => flat e.key) && (scalarKey kd || (isOk (pureRun P (Instr.checkKey true 10000 kt k)) && isOk (pureRun P (Instr.checkKey false 10000 kt k))))) with
    | false => simp [hc] at h
    | true =>
      simp only [hc, cond_true] at h
      simp only [Bool.and_eq_true, Bool.or_eq_true] at hc
      obtain ⟨⟨hfk, hfe⟩, hck⟩ := hc
      have hfe' : ∀ e ∈ es, flat e.key = true := fun e he => List.all_eq_true.1 hfe e he
      have hrun := hE.run_und hu w
      have hun := hE.und hu
      refine ⟨(conc_flat ι 0 k hfk).1, fun e he => (conc_flat ι 0 e.key (hfe' e he)).1, ?_, ?_⟩
      · intro b
        rcases hck with hsc | ⟨h1, h2⟩
        · show (Instr.checkKey b (9999 + 1) kt k).run P w = _
          unfold Instr.checkKey
          simp only [Sem.run_bind, hrun, Result.andThen_ok]
          cases kd <;> simp [scalarKey] at hsc <;> rfl
        · cases b
          · cases hp : pureRun P (Instr.checkKey false 10000 kt k) with
            | ok u => exact pureRun_ok hp w
            | pan v => simp [hp, isOk] at h2
            | no => simp [hp, isOk] at h2
          · cases hp : pureRun P (Instr.checkKey true 10000 kt k) with
            | ok u => exact pureRun_ok hp w
            | pan v => simp [hp, isOk] at h1
            | no => simp [hp, isOk] at h1
      · cases hsc : scalarKey kd with
        | true =>
          simp only [hsc, Bool.true_and] at h
          cases hall : es.all fun e => (Instr.sameNow kd k e.key).isSome with
          | false => simp [hall] at h
          | true =>
            simp only [hall, Bool.not_true, cond_false] at h
            obtain ⟨res, h1, h2⟩ := findA_now (P := P) (ι := ι) kd kt k es 0 r hfe' (fun e he => List.all_eq_true.1 hall e he) h
            refine ⟨res, ?_, h2⟩
            simp only [Instr.findKey, Sem.run_bind, hrun, Result.andThen_ok, h1, Sem.run_pure]
        | false =>
          simp only [hsc, Bool.false_and, cond_false] at h
          obtain ⟨res, h1, h2⟩ := findA_asking (P := P) (ι := ι) kd kt k hsc w es 0 r hfe' h
          refine ⟨res, ?_, h2⟩
          simp only [Instr.findKey, Sem.run_bind, hrun, Result.andThen_ok]
          cases es with
          | nil =>
            simp [findA] at h
            subst h
            have : res = none := h2
            subst this
            simp [Instr.findNow]
          | cons e es =>
            simp only [List.map_cons, Instr.findNow, sameNow_scalar hsc]
            simpa using h1

theorem zero_val {t : TypeId} {z : Value} (h : zeroA E t = some z) (ι : Ren) (N : Nat) : conc ι z = z ∧ Bd N z := conc_plain ι N 3 z (hE.run_zero h default).2

theorem lookup_ok (hS : Sim pr w0 ng ι μ w) {t : TypeId} {x k v : Value} {ok : Bool} (h : lookupA P E t x k ok μ = some v) :
    (Instr.lookup t (conc ι x) (conc ι k) ok).run P w = .ok (conc ι v) w ∧ Bd μ.next v := by
  unfold lookupA at h
  split at h
  · rename_i kt et hu
    cases hen : entriesA x μ with
    | none => simp [hen] at h
    | some es =>
      simp only [hen] at h
      cases hk : keyA P E kt k es with
      | none => simp [hk] at h
      | some r =>
        cases hz : zeroA E et with
        | none => cases r <;> simp [hk, hz] at h
        | some z =>
          obtain ⟨c1, c2, c3, res, c4, c5⟩ := key_ok (ι := ι) hE hk w
          obtain ⟨z1, z2⟩ := zero_val hE hz ι μ.next
          have hbv : ∀ e ∈ es, Bd μ.next e.val := by
            intro e he
            unfold entriesA at hen
            split at hen
            · simp at hen; subst hen; simp at he
            · rename_i rr
              split at hen
              · rename_i es' c hg
                simp at hen; subst hen
                exact ((hS.obj rr _ hg).2.2 e he).2
              · cases hen
            · cases hen
          have hsrc : (x = .map none ∧ es = []) ∨ ∃ rr c, x = .map (some rr) ∧ w.heap[(ι.loc rr).1]? = some (.map (es.map (concE ι)).toArray c) := by
            unfold entriesA at hen
            split at hen
            · simp at hen; exact .inl ⟨rfl, hen⟩
            · rename_i rr
              split at hen
              · rename_i es' c hg
                simp at hen; subst hen
                exact .inr ⟨rr, c, rfl, (hS.obj rr _ hg).2.1⟩
              · cases hen
            · cases hen
          have hrun : ∀ val okk, (match res with | some (_, v) => (v, true) | none => (z, false)) = (val, okk) → (Instr.lookup t (conc ι x) (conc ι k) ok).run P w = .ok (if ok then .tuple #[val, .bool okk] else val) w := by
            intro val okk hres
            unfold Instr.lookup
            simp only [Sem.run_bind, hE.run_und hu, Result.andThen_ok]
            rw [c1]
            rcases hsrc with ⟨rfl, rfl⟩ | ⟨rr, c, rfl, hob⟩
            · simp only [List.map_nil] at c4
              simp only [conc_nilmap, Sem.run_bind, Sem.run_pure, Result.andThen_ok, c3, c4]
              cases res with
              | none => simp at hres; obtain ⟨rfl, rfl⟩ := hres; simp [(hE.run_zero hz _).1]
              | some q => obtain ⟨j, vv⟩ := q; simp at hres; obtain ⟨rfl, rfl⟩ := hres; simp
            · simp only [conc_map, Sem.run_bind, getObj, Sem.run, hob, Sem.run_pure, Result.andThen_ok, c3, c4]
              cases res with
              | none => simp at hres; obtain ⟨rfl, rfl⟩ := hres; simp [(hE.run_zero hz _).1]
              | some q => obtain ⟨j, vv⟩ := q; simp at hres; obtain ⟨rfl, rfl⟩ := hres; simp
          cases r with
          | none =>
            simp only [hk, hz, Option.some.injEq] at h
            have : res = none := c5
            subst this
            have := hrun z false rfl
            subst h
            cases ok with
            | true => simp only [cond_true, if_true] at this ⊢; refine ⟨by rw [this]; simp [z1], by simp [z2]⟩
            | false => simp only [cond_false] at this ⊢; refine ⟨by rw [this]; simp [z1], z2⟩
          | some j =>
            simp only [hk, hz] at h
            obtain ⟨e, _, he, rfl⟩ := c5
            simp only [Nat.sub_zero] at he
            simp only [he, Option.some.injEq] at h
            have := hrun (conc ι e.val) true rfl
            have hb := hbv e (List.mem_of_getElem? he)
            subst h
            cases ok with
            | true => simp only [cond_true, if_true] at this ⊢; refine ⟨by rw [this]; simp, by simp [hb]⟩
            | false => simp only [cond_false] at this ⊢; refine ⟨by rw [this]; simp, hb⟩
  · cases h

omit hE in
theorem setEntry_conc (ι : Ren) : ∀ (es : List MapEntry) (i : Nat) (k v : Value) (e : MapEntry), es[i]? = some e →
    ((es.map (concE ι)).toArray.modify i fun x => { x with key := conc ι k, val := conc ι v }) = ((setEntry es i k v).map (concE ι)).toArray := by
  intro es i k v e h
  apply Array.ext'
  rw [Array.toList_modify]
  simp only
  clear h
  induction es generalizing i with
  | nil => cases i <;> simp [setEntry]
  | cons x xs ih =>
    cases i with
    | zero => simp [setEntry, concE]
    | succ i => simp [setEntry, ih i]
omit hE in
theorem eraseIdx_map' {α β : Type} (f : α → β) : ∀ (l : List α) (i : Nat), (l.map f).eraseIdx i = (l.eraseIdx i).map f
  | [], i => by simp
  | x :: l, 0 => by simp
  | x :: l, i + 1 => by simp [eraseIdx_map' f l i]
omit hE in
theorem upd_heap (O : Obj) (n e : Nat) : (w.alloc O).heap[((ι.upd n (w.heap.size, 0) e).loc n).1]? = some O := by
  simp only [Ren.upd, if_true]
  exact heap_alloc_new w O
omit hE in
theorem setEntry_mem : ∀ {es : List MapEntry} {i : Nat} {k v : Value} {x : MapEntry}, x ∈ setEntry es i k v → x ∈ es ∨ (x.key = k ∧ x.val = v)
  | [], i, k, v, x, h => by cases i <;> simp [setEntry] at h
  | e :: es, 0, k, v, x, h => by
    simp only [setEntry, List.mem_cons] at h
    rcases h with rfl | h
    · exact .inr ⟨rfl, rfl⟩
    · exact .inl (by simp [h])
  | e :: es, i + 1, k, v, x, h => by
    simp only [setEntry, List.mem_cons] at h
    rcases h with rfl | h
    · exact .inl (by simp)
    · rcases setEntry_mem h with h | h
      · exact .inl (by simp [h])
      · exact .inr h

omit hE in
/-- A map's new entries are laid. -/
theorem putMap_ok (hS : Sim pr w0 ng ι μ w) {r : Nat} {es es' : List MapEntry} {c c' : Nat} (hg : μ.get r = some (.map es c)) (hb : ∀ e ∈ es', Bd μ.next e.key ∧ Bd μ.next e.val) :
    ∃ w', (setObj (ι.loc r).1 (.map (es'.map (concE ι)).toArray c')).run P w = .ok () w' ∧ Sim pr w0 ng ι (μ.put r (.map es' c')) w' := by
  have hobj := hS.obj r _ hg
  have hlt := hS.blk r _ hg rfl
  refine ⟨{ w with heap := w.heap.setIfInBounds (ι.loc r).1 (.map (es'.map (concE ι)).toArray c') }, by simp [setObj, Sem.run, hobj.2.1], ?_⟩
  refine hS.turn hg rfl rfl rfl rfl (by simp) (fun k hk => by simp [Array.getElem?_setIfInBounds_ne (Ne.symm hk)]) ⟨hobj.1, by simp [hlt], hb⟩

theorem update_ok (hS : Sim pr w0 ng ι μ w) {t : TypeId} {x k v : Value} {μ' : Hp} (h : updateA P E t x k v μ = some μ') (hbk : Bd μ.next k) (hbv : Bd μ.next v) :
    Unt P pr w0 ng ι μ w (Instr.mapUpdate t (conc ι x) (conc ι k) (conc ι v)) μ' := by
  unfold updateA at h
  split at h
  · rename_i kt et r hu
    split at h
    · rename_i es clock hg
      have hobj := hS.obj r _ hg
      cases hk : keyA P E kt k es with
      | none => simp [hk] at h
      | some q =>
        obtain ⟨c1, c2, c3, res, c4, c5⟩ := key_ok (ι := ι) hE hk w
        cases q with
        | none =>
          simp only [hk, Option.some.injEq] at h
          subst h
          have : res = none := c5
          subst this
          obtain ⟨w', h1, h2⟩ := putMap_ok (P := P) (es' := es ++ [{ key := k, val := v, born := clock }]) (c' := clock + 1) hS hg (fun e he => by
            rcases List.mem_append.1 he with he | he
            · exact hobj.2.2 e he
            · simp at he; subst he; exact ⟨hbk, hbv⟩)
          refine ⟨ι, w', ?_, h2, Ext.refl _ _, Nat.le_refl _⟩
          rw [c1]
          simp only [Instr.mapUpdate, Sem.run_bind, hE.run_und hu, Result.andThen_ok, conc_map, getObj, Sem.run, hobj.2.1, Sem.run_pure, c3, c4]
          rw [← h1]
          congr 2
          simp [concE, c1]
        | some i =>
          simp only [hk] at h
          obtain ⟨e, _, he, rfl⟩ := c5
          simp only [Nat.sub_zero] at he
          simp only [he] at h
          cases hsb : Instr.sameBits 10000 e.key k with
          | false => simp [hsb] at h
          | true =>
            simp only [hsb, cond_true, Option.some.injEq] at h
            subst h
            obtain ⟨w', h1, h2⟩ := putMap_ok (P := P) (es' := setEntry es i k v) (c' := clock) hS hg (fun e he => by
              rcases setEntry_mem he with he | ⟨rfl, rfl⟩
              · exact hobj.2.2 e he
              · exact ⟨hbk, hbv⟩)
            refine ⟨ι, w', ?_, h2, Ext.refl _ _, Nat.le_refl _⟩
            have hek := c2 e (List.mem_of_getElem? he)
            have hi := (List.getElem?_eq_some_iff.1 he).1
            have hie := (List.getElem?_eq_some_iff.1 he).2
            rw [← setEntry_conc ι es i k v e he] at h1
            rw [c1] at h1 ⊢
            simp only [Instr.mapUpdate, Sem.run_bind, hE.run_und hu, Result.andThen_ok, conc_map, getObj, Sem.run, hobj.2.1, Sem.run_pure, c3, c4]
            have hkey : (((((es.map (concE ι)).toArray)[i]?).map (·.key)).getD k) = e.key := by simp [he, concE, hek]
            rw [hkey]
            simp only [Instr.keyThatStays, hsb, if_true, Sem.run_pure, Result.andThen_ok]
            exact h1
    · cases h
  · cases h

theorem delete_ok (hS : Sim pr w0 ng ι μ w) {ts : List TypeId} {args : List Value} {ty : TypeId} {v : Value} {μ' : Hp} (h : deleteA P E ts args μ = some (v, μ')) :
    Val P pr w0 ng ι μ w (Builtin.delete_ ⟨ts⟩ ty ⟨args.map (conc ι)⟩) v μ' := by
  unfold deleteA at h
  split at h
  · rename_i t rest x k
    simp only [List.map_cons, List.map_nil]
    split at h
    · rename_i kt et r hu
      split at h
      · rename_i es clock hg
        have hobj := hS.obj r _ hg
        cases hk : keyA P E kt k es with
        | none => simp [hk] at h
        | some q =>
          obtain ⟨c1, c2, c3, res, c4, c5⟩ := key_ok (ι := ι) hE hk w
          cases q with
          | none =>
            simp only [hk, Option.some.injEq, Prod.mk.injEq] at h
            obtain ⟨rfl, rfl⟩ := h
            have : res = none := c5
            subst this
            obtain ⟨w', h1, h2⟩ := putMap_ok (P := P) (es' := es) (c' := clock) hS hg hobj.2.2
            refine ⟨ι, w', ?_, h2, Ext.refl _ _, Nat.le_refl _, by simp⟩
            rw [c1]
            simp only [Builtin.delete_, List.getElem?_toArray, List.getElem?_cons_zero, List.getElem?_cons_succ, Sem.run_bind, hE.run_und hu, Result.andThen_ok, conc_map, getObj, Sem.run, hobj.2.1, Sem.run_pure, c3, c4]
            have h1' : (Sem.setObj (ι.loc r).1 (.map (es.map (concE ι)).toArray clock) (Sem.pure ())).run P w = .ok () w' := h1
            simp only [setObj, Sem.run_bind, h1', Result.andThen_ok]
            simp
          | some i =>
            simp only [hk, Option.some.injEq, Prod.mk.injEq] at h
            obtain ⟨rfl, rfl⟩ := h
            obtain ⟨e, _, he, rfl⟩ := c5
            simp only [Nat.sub_zero] at he
            have hi := (List.getElem?_eq_some_iff.1 he).1
            obtain ⟨w', h1, h2⟩ := putMap_ok (P := P) (es' := es.eraseIdx i) (c' := clock) hS hg (fun e he => hobj.2.2 e (List.mem_of_mem_eraseIdx he))
            refine ⟨ι, w', ?_, h2, Ext.refl _ _, Nat.le_refl _, by simp⟩
            rw [c1]
            simp only [Builtin.delete_, List.getElem?_toArray, List.getElem?_cons_zero, List.getElem?_cons_succ, Sem.run_bind, hE.run_und hu, Result.andThen_ok, conc_map, getObj, Sem.run, hobj.2.1, Sem.run_pure, c3, c4]
            have hers : (es.map (concE ι)).toArray.eraseIdxIfInBounds i = ((es.eraseIdx i).map (concE ι)).toArray := by
              unfold Array.eraseIdxIfInBounds
              rw [dif_pos (by simpa using hi)]
              apply Array.ext'
              simp [eraseIdx_map']
            have h1' : (Sem.setObj (ι.loc r).1 (.map ((es.map (concE ι)).toArray.eraseIdxIfInBounds i) clock) (Sem.pure ())).run P w = .ok () w' := by rw [hers]; exact h1
            simp only [setObj, Sem.run_bind, h1', Result.andThen_ok]
            simp
      · cases h
    · rename_i kt et hu
      cases hk : keyA P E kt k [] with
      | none => simp [hk] at h
      | some q =>
        obtain ⟨c1, c2, c3, _⟩ := key_ok (ι := ι) hE hk w
        simp only [hk, Option.some.injEq, Prod.mk.injEq] at h
        obtain ⟨rfl, rfl⟩ := h
        refine Val.same hS ?_ (by simp)
        rw [c1]
        simp only [Builtin.delete_, List.getElem?_toArray, List.getElem?_cons_zero, List.getElem?_cons_succ, Sem.run_bind, hE.run_und hu, Result.andThen_ok, conc_nilmap, c3]
        simp
    · cases h
  · cases h

theorem range_ok (hS : Sim pr w0 ng ι μ w) {t : TypeId} {x v : Value} {μ' : Hp} (h : rangeA E t x μ = some (v, μ')) (hb : Bd μ.next x) :
    Val P pr w0 ng ι μ w (Instr.range t (conc ι x)) v μ' := by
  unfold rangeA at h
  simp only at h
  split at h
  · rename_i o ho
    cases hn : μ.new o with
    | none => simp [hn] at h
    | some q =>
      obtain ⟨n, μ1⟩ := q
      simp only [hn, Option.some.injEq, Prod.mk.injEq] at h
      obtain ⟨rfl, rfl⟩ := h
      obtain ⟨rfl, hlim, hμ⟩ := Hp.new_eq hn
      have fin : ∀ (O : Obj), ObjOk (ι.upd μ.next (w.heap.size, 0) 0) μ1.next (w.alloc O) μ.next o → (Instr.range t (conc ι x)).run P w = .ok (.pointer (some ⟨w.heap.size, 0, none⟩)) (w.alloc O) →
          Val P pr w0 ng ι μ w (Instr.range t (conc ι x)) (.pointer (some ⟨μ.next, 0, none⟩)) μ1 := by
        intro O hO hr
        obtain ⟨hS', hx, hnx, _⟩ := hS.alloc hn O 0 hO
        refine ⟨_, _, ?_, hS', hx, by omega, by simp [hnx]⟩
        rw [hr]
        simp [Ren.addr, Ren.upd]
      split at ho
      · rename_i s hu
        simp at ho; subst ho
        exact fin (.stringIter s 0) ⟨by simp [Ren.upd], upd_heap _ _ _⟩ (by simp [Instr.range, hE.run_und hu])
      · rename_i hu
        simp at ho; subst ho
        exact fin (.mapIter none 0 #[] 0) ⟨by simp [Ren.upd], upd_heap _ _ _, by simp⟩ (by simp [Instr.range, hE.run_und hu])
      · rename_i m hu
        split at ho
        · rename_i es clock hg
          simp at ho; subst ho
          have hm := hS.lt m _ hg
          have hobj := (hS.obj m _ hg).2.1
          exact fin (.mapIter (some (ι.loc m).1) clock #[] clock) ⟨by simp [Ren.upd], by rw [upd_heap]; simp [Ren.upd, Nat.ne_of_lt hm], by simp [hμ]; omega⟩ (by simp [Instr.range, hE.run_und hu, getObj, Sem.run, hobj])
        · cases ho
      · cases ho
  · cases h

omit hE in
theorem next_ok (hS : Sim pr w0 ng ι μ w) {it v : Value} {isS : Bool} {ty : TypeId} {μ' : Hp} (h : nextA it isS μ = some (v, μ')) :
    Val P pr w0 ng ι μ w (Instr.next (conc ι it) isS ty) v μ' := by
  unfold nextA at h
  split at h
  · rename_i r
    split at h
    · rename_i s pos hg
      have hobj := hS.obj r _ hg
      have h0 := hobj.1
      have haddr : conc ι (.pointer (some ⟨r, 0, none⟩)) = .pointer (some ⟨(ι.loc r).1, 0, none⟩) := by simp [Ren.addr, h0]
      cases hlt : Nat.blt pos s.size with
      | true =>
        simp [hlt] at h
        obtain ⟨rfl, rfl⟩ := h
        have hlt' : pos < s.size := by simpa [Nat.blt_eq] using hlt
        have hbl := hS.blk r _ hg rfl
        refine ⟨ι, { w with heap := w.heap.setIfInBounds (ι.loc r).1 (.stringIter s (pos + (Utf8.decode s pos).2)) }, ?_, hS.turn hg rfl rfl rfl rfl (by simp) (fun k hk => by simp [Array.getElem?_setIfInBounds_ne (Ne.symm hk)]) ⟨h0, by simp [hbl]⟩, Ext.refl _ _, Nat.le_refl _, by simp [goInt]⟩
        rw [haddr]
        simp only [Instr.next, Sem.run_bind, getObj, Sem.run, hobj.2, Sem.run_pure, Result.andThen_ok]
        simp [hlt', setObj, Sem.run, hobj.2, goInt]
      | false =>
        simp [hlt] at h
        obtain ⟨rfl, rfl⟩ := h
        have hlt' : ¬ pos < s.size := by
          intro hh
          have : Nat.blt pos s.size = true := by simpa [Nat.blt_eq] using hh
          rw [this] at hlt; cases hlt
        refine Val.same hS ?_ (by simp)
        rw [haddr]
        simp only [Instr.next, Sem.run_bind, getObj, Sem.run, hobj.2, Sem.run_pure, Result.andThen_ok]
        simp [hlt']
    · rename_i since seen st hg
      have hobj := hS.obj r _ hg
      simp at h
      obtain ⟨rfl, rfl⟩ := h
      refine Val.same hS ?_ (by simp)
      have haddr : conc ι (.pointer (some ⟨r, 0, none⟩)) = .pointer (some ⟨(ι.loc r).1, 0, none⟩) := by simp [Ren.addr, hobj.1]
      rw [haddr]
      simp only [Instr.next, Sem.run_bind, getObj, Sem.run, hobj.2.1, Option.map_none, Sem.run_pure, Result.andThen_ok]
      simp
    · rename_i m since seen last hg
      have hobj := hS.obj r _ hg
      split at h
      · rename_i es clock hgm
        have hmo := hS.obj m _ hgm
        have haddr : conc ι (.pointer (some ⟨r, 0, none⟩)) = .pointer (some ⟨(ι.loc r).1, 0, none⟩) := by simp [Ren.addr, hobj.1]
        cases hc : (!seen.isEmpty && !es.isEmpty && es.all (fun e => Nat.ble last e.born)) with
        | true => simp [hc] at h
        | false =>
          simp only [hc, cond_false] at h
          have hc' : (!seen.toArray.isEmpty && !(es.map (concE ι)).toArray.isEmpty && (es.map (concE ι)).toArray.all (fun e => decide (e.born ≥ last))) = false := by
            rw [← hc]
            have h1 : seen.toArray.isEmpty = seen.isEmpty := by cases seen <;> rfl
            have h2 : (es.map (concE ι)).toArray.isEmpty = es.isEmpty := by cases es <;> rfl
            have h3 : (es.map (concE ι)).toArray.all (fun e => decide (e.born ≥ last)) = es.all (fun e => Nat.ble last e.born) := by
              rw [Bool.eq_iff_iff]
              simp [List.all_eq_true, Nat.ble_eq, concE]
              exact ⟨fun h x hx => of_decide_eq_true (h x hx), fun h x hx => decide_eq_true (h x hx)⟩
            rw [h1, h2, h3]
          have hleft : (es.map (concE ι)).toArray.filter (fun e => !seen.toArray.contains e.born) = ((es.filter fun e => !seen.contains e.born).map (concE ι)).toArray := by
            apply Array.ext'
            simp only [Array.toList_filter, List.filter_map]
            congr 2
            funext e
            simp [Function.comp, concE]
          rw [haddr]
          split at h
          · rename_i hL
            simp at h
            obtain ⟨rfl, rfl⟩ := h
            refine Val.same hS ?_ (by simp)
            simp only [Instr.next, Sem.run_bind, getObj, Sem.run, hobj.2.1, Option.map_some, Sem.run_pure, Result.andThen_ok, hmo.2.1]
            rw [if_neg (by rw [hc']; simp), hleft, hL]
            simp [Question.forced]
          · rename_i e hL
            cases hbs : Nat.blt e.born since with
            | false => simp [hbs] at h
            | true =>
              simp only [hbs, cond_true, Option.some.injEq, Prod.mk.injEq] at h
              obtain ⟨rfl, rfl⟩ := h
              have hbs' : e.born < since := by simpa [Nat.blt_eq] using hbs
              have hmem : e ∈ es := by
                have : e ∈ es.filter fun e => !seen.contains e.born := by rw [hL]; simp
                exact (List.mem_filter.1 this).1
              have hbe := hmo.2.2 e hmem
              have hbl := hS.blk r _ hg rfl
              refine ⟨ι, { w with heap := w.heap.setIfInBounds (ι.loc r).1 (.mapIter (some (ι.loc m).1) since (seen.toArray.push e.born) clock) }, ?_, hS.turn hg rfl rfl rfl rfl (by simp) (fun k hk => by simp [Array.getElem?_setIfInBounds_ne (Ne.symm hk)]) ⟨hobj.1, by simp [hbl], hobj.2.2⟩, Ext.refl _ _, Nat.le_refl _, by simp; exact hbe⟩
              have hnot : ¬ since ≤ e.born := by omega
              simp only [Instr.next, Sem.run_bind, getObj, Sem.run, hobj.2.1, Option.map_some, Sem.run_pure, Result.andThen_ok, hmo.2.1]
              rw [if_neg (by rw [hc']; simp), hleft, hL]
              simp [Question.forced, concE, hbs', hnot, setObj, Sem.run, hobj.2.1]
          · cases h
      · cases h
    · cases h
  · cases h
end
end Go.Abs
