/-
  The abstract machine: runs whose arguments and answer have no addresses, over every world.
-/
import Derived.Test.YtnbhpnnjmfeafaaAmMain
namespace Go.Abs
set_option linter.unusedVariables false

/-- No function of the program is the runtime's own count of goroutines (whose answer is the scheduler's). -/
def noGo (P : Program) : Bool := P.funcs.toList.all fun fn => !(fn.name == "runtime.NumGoroutine")
def env (P : Program) : Env where
  info t := P.info? t
  fn f := match P.funcs[f]? with
    | some fn => match fn.body with
      | some _ => some fn
      | none => none
    | none => none
  ng := 0
theorem env_ok {P : Program} (h : noGo P = true) : EnvOk P (env P) := by
  refine ⟨fun t i h => h, fun f fn hf => ?_⟩
  simp only [env] at hf
  split at hf
  · rename_i fn' hfn
    split at hf
    · rename_i c hc
      simp at hf; subst hf
      have := List.all_eq_true.1 h fn' (Array.mem_toList_iff.2 (Array.mem_of_getElem? hfn))
      exact ⟨hfn, by rw [hc]; rfl, by simpa using this⟩
    · simp at hf
  · simp at hf

def μ0 : Hp := { objs := .e, next := 0 }
def noSum : Sums := fun _ => none
theorem noSum_ok (P : Program) (pr : Nat → Prop) (w0 : World) (ng : Nat) : SumsOk P pr w0 ng noSum := fun f s h => by simp [noSum] at h
theorem sim0 (w : World) : Sim (fun _ => True) w 0 ⟨fun _ => (0, 0), fun _ => 0⟩ μ0 w where
  os := rfl
  tape := rfl
  output := rfl
  size := Nat.le_refl _
  prot _ _ _ := rfl
  lt n o h := by simp [Hp.get, μ0, Tr.get] at h
  obj n o h := by simp [Hp.get, μ0, Tr.get] at h
  blk n o h := by simp [Hp.get, μ0, Tr.get] at h
  free n o h := by simp [Hp.get, μ0, Tr.get] at h
  inj n m o o' h := by simp [Hp.get, μ0, Tr.get] at h
  lim := by simp [μ0]
  glob g h := by omega
theorem Sim.below {w0 w : World} {ι : Ren} {μ : Hp} {ng : Nat} (h : Sim (fun _ => True) w0 ng ι μ w) : RowKit.Below w0.heap.size w0 w :=
  ⟨h.os, h.tape, h.output, h.size, fun k hk => h.prot k hk trivial⟩

/-- A value without addresses. -/
def Pure (v : Value) : Prop := ∀ ι, conc ι v = v ∧ Bd 0 v
theorem Pure.ofPlain {v : Value} {n : Nat} (h : plain n v = true) : Pure v := fun ι => conc_plain ι 0 n v h

theorem calls_of_run {P : Program} (hmix : P.follows .mixedOrders = true) (hng : noGo P = true) {f : FuncId} {args : List Value} {v : Value} {μ' : Hp} {n : Nat}
    (h : run P (env P) noSum n f args μ0 = some (.returned v, μ')) (ha : ∀ x ∈ args, Pure x) (hv : Pure v) (w : World) :
    Calls P f args.toArray w fun e w' => e = .returned v ∧ RowKit.Below w.heap.size w w' := by
  have hc := run_ok (env_ok hng) hmix (noSum_ok P (fun _ => True) w (env P).ng) n f args μ0 _ _ h _ w (sim0 w) (fun x hx => (ha x hx ⟨fun _ => (0, 0), fun _ => 0⟩).2)
  rw [show args.map (conc ⟨fun _ => (0, 0), fun _ => 0⟩) = args by
    conv => rhs; rw [← List.map_id args]
    exact List.map_congr_left fun x hx => (ha x hx _).1] at hc
  refine hc.mono ?_
  rintro e w' ⟨ι, hx, hl, hS, he⟩
  refine ⟨?_, hS.below⟩
  cases e with
  | returned v' => obtain ⟨h1, _⟩ := he; rw [h1, (hv ι).1]
  | _ => exact he.elim

/-- What a run that answers comes to. -/
def answer : Option (Ending × Hp) → Option Value
  | some (.returned v, _) => some v
  | _ => none
theorem calls_of_answer {P : Program} (hmix : P.follows .mixedOrders = true) (hng : noGo P = true) {f : FuncId} {args : List Value} {v : Value} {n : Nat}
    (h : answer (run P (env P) noSum n f args μ0) = some v) (ha : ∀ x ∈ args, Pure x) (hv : Pure v) (w : World) :
    Calls P f args.toArray w fun e w' => e = .returned v ∧ RowKit.Below w.heap.size w w' := by
  unfold answer at h
  split at h
  · rename_i v' μ' hr
    simp at h; subst h
    exact calls_of_run hmix hng hr ha hv w
  · simp at h
end Go.Abs
