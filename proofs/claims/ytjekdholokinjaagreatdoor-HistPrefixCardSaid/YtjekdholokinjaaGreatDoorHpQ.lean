/-
  DigestTurns: the program's environment.
-/

import Derived.Test.YtjekdholokinjaaGreatDoorBmE
import Derived.Test.YtjekdholokinjaaGreatDoorProg
import Derived.KernelRfl
set_option linter.unusedVariables false
set_option linter.unusedSimpArgs false
set_option linter.unusedSectionVars false
namespace Go.Abs
open Go.Proofs
set_option maxRecDepth 100000
set_option linter.unusedVariables false
noncomputable def E1 := env Tryz.prog
theorem ngT : noGo Tryz.prog = true := by kernel_rfl
theorem mixT : Tryz.prog.follows .mixedOrders = true := by kernel_rfl
theorem hE1 : EnvOk Tryz.prog E1 := env_ok ngT
theorem hP1 : Okk Tryz.prog E1 := ⟨hE1, rfl, mixT⟩
noncomputable def codeAt (f : Func) (p : List Nat) : Code := ((f.body.bind fun c => sub c p)).getD .skip
theorem getD_some {l : List Int} {i : Nat} (h : i < l.length) : l[i]? = some (l.getD i 0) := by rw [List.getElem?_eq_getElem h]; simp [List.getD_eq_getElem?_getD, List.getElem?_eq_getElem h]
theorem putAt_one {α : Type} (vs : List α) (o : Nat) (x : α) (h : o < vs.length) : putAt vs o [x] = vs.set o x := by
  simp only [putAt, List.set_eq_take_append_cons_drop, h, if_true, List.length_cons, List.length_nil, List.cons_append, List.nil_append]
theorem putAt_twice {α : Type} (r : List α) (k : Nat) (a b : α) (h : k < r.length) : putAt (putAt r k [a]) k [b] = putAt r k [b] := by
  rw [putAt_one r k a h, putAt_one r k b h, putAt_one _ k b (by rw [List.length_set]; exact h), List.set_set]
/-- Bytes as cells. -/
def bv (bs : List Int) : List Value := bs.map (Value.int .u8)
theorem bv_get {bs : List Int} {k : Nat} (h : k < bs.length) : (bv bs)[0 + k * 1]? = some (.int .u8 (bs.getD k 0)) := by
  rw [Nat.zero_add, Nat.mul_one, bv, List.getElem?_map, getD_some h]; rfl
/-- Cells that hold no address. -/
def PlainC (r : List Value) : Prop := ∀ v ∈ r, (∀ N, Bd N v) ∧ ∀ σ, upV σ v = v
theorem PlainC.map {r : List Value} (h : PlainC r) (σ : Nat → Nat) : r.map (upV σ) = r := by
  have : r.map (upV σ) = r.map id := List.map_congr_left fun v hv => (h v hv).2 σ
  rw [this, List.map_id]
/-- A round that leaves more behind than is asked for. -/
theorem on_keep {P : Program} {E : Env} {pr : Prot} {w0 : World} (hP : Okk P E) {s : Sm} (hs : SmOk P E pr w0 s) {f : Nat} {p : List Nat} {c : Code} (hh : Here E f p c) {n : Nat}
    {T : Type} {L : Lp T} {t : T} {Ψ : Post} {N : Nat} {orc : List Ans}
    {ts1 : List (Nat × Value)} {os1 : List (Nat × AObj)} {n1 : Nat} (hc : Ran (codeO P E s noRun n f p c (L.fr t) (L.hp t) orc True) .normal L.sz ts1 os1 n1)
    (t' : T) (ht : ∀ p ∈ L.ts t', p ∈ ts1) (ho : ∀ p ∈ L.os t', p ∈ os1) (hm : L.m t' < L.m t) (hF : Fits N (L.ts t') (L.os t') (L.nx t')) :
    Tri P pr w0 N c (L.fr t) (L.hp t) (LoopPost L t Ψ) :=
  on_via hP hs hh hc (fun n => n) t' (fun p hp => by rw [upV_id]; exact ht p hp) (fun p hp => by rw [upO_id]; exact ho p hp) (fun p _ q _ h => h) (fun _ _ => rfl) hm hF
theorem i64_succ {k : Nat} (h : k + 1 ≤ 9223372036854775807) : IntKind.i64.wrap ((k : Int) + 1) = ((k + 1 : Nat) : Int) := by rw [i64_small (by omega) (by omega)]; rfl
end Go.Abs
