/-
  What the law's functions come to: part E.
-/
import Derived.Test.YtjekdholokinjaaGreatDoorHpL
import Derived.Test.YtjekdholokinjaaGreatDoorHpB
import Derived.Test.YtjekdholokinjaaGreatDoorHpD
import Derived.Test.YtjekdholokinjaaGreatDoorBmE
set_option linter.unusedVariables false
set_option linter.unusedSimpArgs false
set_option linter.unusedSectionVars false
section
namespace Go.Abs
open Go.Proofs
theorem ext_ok {P : Program} {i : Nat} {fn : Func} (hf : P.funcs[i]? = some fn) (hname : (fn.name == "runtime.NumGoroutine") = false) (hb : fn.body.isNone = true) (hn : Extern.findNext fn = none) (he : Extern.find fn = some Extern.BytealgIndexByte.indexByte)
    {pr : Prot} {w0 : World} {ng : Nat} : ExtOk P pr w0 ng fun f => bif Nat.beq f i then some ixb else none := by
  intro f g hg args μ v h ι w hS hbd
  dsimp only at hg
  cases hc : Nat.beq f i with
  | false => rw [hc] at hg; cases hg
  | true =>
    rw [hc, cond_true, Option.some.injEq] at hg
    subst hg
    have := Nat.eq_of_beq_eq_true hc
    subst this
    unfold ixb at h
    split at h
    · rename_i s c
      simp only [Option.some.injEq] at h
      subst h
      refine ⟨?_, by simp⟩
      rw [show ([Value.string s, Value.int .u8 c].map (conc ι)).toArray = #[.string s, .int .u8 c] by simp, run_callFunc_indexByte hf hname hb hn he, run_indexByte_string]
      simp
    · cases h
theorem extX_ok (pr : Prot) (w0 : World) : ExtOk Tryz.prog pr w0 E9.ng extX := by
  obtain ⟨fn, hf⟩ : ∃ fn, Tryz.prog.funcs[216]? = some fn := Option.isSome_iff_exists.1 (by kernel_rfl)
  have e : fn = (Tryz.prog.funcs[216]?).getD default := by rw [hf]; rfl
  exact ext_ok hf (by rw [e]; kernel_rfl) (by rw [e]; kernel_rfl) (by rw [e]; kernel_rfl) (by rw [e]; kernel_rfl)
theorem env9 : EnvOk Tryz.prog E9 := env_ng_ok ngT 9
theorem Sc_ok (pr : Prot) (w0 : World) : SumsOk Tryz.prog pr w0 E9.ng Sc := waysOn_ok env9 mixT (fun _ _ => noPlain_ok) extX_ok 5 100000 100000 _ pr w0
theorem lives_calls {w : World} (h : TabsOk tabs9 w) : Calls Tryz.prog 10 #[] w fun e w' => e = .returned (.bool true) ∧ RowKit.Below w.heap.size w w' :=
  calls_of_closed env9 mixT Sc_ok extX_ok lives_run (fun x hx => by cases hx) (pure_bool _) (sim_tabs (N := 9) h (by simp [tabs9]) (by decide) fun _ => none)
def TabZ (pr : Prot) (w : World) : Prop := Tab pr w ∧ TabsOk tabs9 w ∧ pr.p 0
theorem tabz_stands : StandsL TabZ := by
  intro pr w0 pr' w ⟨hG, hT, h0⟩ hsz hk
  refine ⟨tab_stands pr w0 pr' w hG hsz hk, ?_, ?_⟩
  · intro t ht i u hu
    obtain ⟨h1, h2⟩ := hT t ht i u hu
    have hp : pr.p t.g := by
      simp only [tabs9, List.mem_cons, List.not_mem_nil, or_false] at ht
      rcases ht with rfl | rfl
      · exact h0
      · exact hG.2
    refine ⟨Nat.lt_of_lt_of_le h1 hsz, ?_⟩
    rw [← h2]
    simp only [World.cell?, (hk t.g h1 hp).2]
  · exact (hk 0 (Nat.lt_of_le_of_lt (Nat.zero_le 1) hG.lt) h0).1
theorem ConWG.toZ {P : Program} {f : FuncId} {c : ConW} (h : ConWG Tab P f c) : ConWG TabZ P f c :=
  ⟨h.lim, h.bd, h.ap, h.uv, h.un, by obtain ⟨μ, h1, h2⟩ := h.run; exact ⟨μ, fun pr w0 hG ι w hS => h1 pr w0 hG.1 ι w hS, h2⟩⟩
def livesQ : List Value → Hp → Option (Value × Prop) := fun args _ => match args with
  | [] => some (.bool true, True)
  | _ => none
theorem lives_ok {pr : Prot} {w0 : World} (hG : TabZ pr w0) : SumOk Tryz.prog pr w0 0 10 (pureS livesQ) := by
  intro args μ e μ' p hg hp ι w hS hbd
  unfold pureS at hg
  split at hg
  case h_2 => cases hg
  rename_i v p' hq
  unfold livesQ at hq
  split at hq
  · simp only [Option.some.injEq, Prod.mk.injEq] at hg hq
    obtain ⟨rfl, rfl⟩ := hq
    obtain ⟨rfl, rfl, rfl⟩ := hg
    have hT := tabz_stands.stands _ _ _ _ _ _ hG hS
    exact calls_stays hS (pure_bool _) (lives_calls hT.2.1)
  · cases hq
theorem ConWG.zT {P : Program} {f : FuncId} {c : ConW} (h : ConWG GT P f c) : ConWG TabZ P f c := ConWG.toT h
end Go.Abs
end
section
namespace Go.Abs
open Go.Proofs
set_option maxRecDepth 100000
def wT (l : List Tx) : Wd := .d (rowT l (l.length + 64)) l.length
def K6 (a b : List Tx) (p : Bool) : ConW := ⟨fun X => [X 0, X 1], [wT a, wT b], fun _ => .bool p, fun _ => []⟩
def K8 (a : List Tx) : ConW := ⟨fun X => [X 0, X 1], [wT a, .d (txsD a) a.length], fun _ => .bool true, fun _ => []⟩
def K9 (l : List Tx) : Con := ⟨fun σ => [.slice (some ⟨σ 0, 0, none⟩) l.length (2 * (l.length + 64))], oR (rowT l (l.length + 64)), 1, fun _ => .bool true, fun _ => []⟩
def kn7p (a b : List Tx) (p : Bool) : ConW := ⟨fun X => [X 0, X 1], [.d (txsD a) a.length, .d (txsD b) b.length], fun _ => .bool p, fun _ => []⟩
def largeG (a b : List Tx) : List Value → Hp → Option (List Value × ConW × Prop) := fun args _ => match args with
  | [.chan (some n)] => bif Nat.beq n 1 then some ([.chan (some n)], kn4 a, True) else some ([.chan (some n)], kn4 b, True)
  | _ => none
def txnsG (a b : List Tx) : List Value → Hp → Option (List Value × ConW × Prop) := fun args _ => match args with
  | [.chan (some n)] => bif Nat.beq n 1 then some ([.chan (some n)], K5 a, True) else some ([.chan (some n)], K5 b, True)
  | _ => none
def prefG (a b : List Tx) (p : Bool) : List Value → Hp → Option (List Value × ConW × Prop) := fun args _ => match args with
  | [.slice (some s) n m, y] => bif Nat.beq s.block 6 then some ([.slice (some s) n m, y], K6 a b p, True) else some ([.slice (some s) n m, y], K6 b a p, True)
  | _ => none
def refG (a b : List Tx) (p : Bool) : List Value → Hp → Option (List Value × ConW × Prop) := fun args _ => match args with
  | [x, y] => some ([x, y], kn7p a b p, True)
  | _ => none
def eqG (a b : List Tx) : List Value → Hp → Option (List Value × ConW × Prop) := fun args _ => match args with
  | [.slice (some s) n m, y] => bif Nat.beq s.block 6 then some ([.slice (some s) n m, y], K8 a, True) else some ([.slice (some s) n m, y], K8 b, True)
  | _ => none
def spareS (a b : List Tx) : SumO := fun args μ => match args with
  | [.slice (some s) n m] => bif Nat.beq s.block 6 then pv (K9 a) args μ else pv (K9 b) args μ
  | _ => none
noncomputable def s3w (a b : List Tx) : Sm := withQ sm0 4 (fnP (largeG a b))
noncomputable def s3 (a b : List Tx) (p : Bool) : Sm := withQ (withQ (withS (withQ (withQ (withQ (withS sm0 5 (fnW (txnsG a b))) 4 (fnP (largeG a b))) 6 (fnP (prefG a b p))) 7 (fnP (refG a b p))) 9 (spareS a b)) 8 (fnP (eqG a b))) 10 livesQ
theorem c3a_came (a : List Tx) (b : List Tx) (h0 : lgB a = true) :
    RanC (runO Tryz.prog E1 (s3w a b) noRun 100 3 [Value.chan (some 1), Value.chan (some 3)] (mkHp 4 (wordsOs [Wd.d (txsD a) (List.length a), Wd.d (txsD b) (List.length b)] 0 fun n => n)) [.skip 4, .b false, .b false, .b true] True) (.returned (Value.bool true)) [(0, AObj.ro (txsD a)), (1, AObj.word (List.length a) 0), (2, AObj.ro (txsD b)), (3, AObj.word (List.length b) 2)] 4 :=
  cameCF_of (O := ((((True ∧ True ∧ [Value.chan (some 1)] = [Value.chan (some 1)] ∧ (Wd.len (Wd.d (txsD a) (List.length a)) = Wd.len (Wd.d (txsD a) (List.length a)) ∧ txsD a = txsD a) ∧ True) ∧ (lgB a == false) = false) ∧ (lgB a == false) = false) ∧ lgB a = true)) (by kernel_rfl) ⟨⟨⟨⟨trivial, ⟨trivial, ⟨rfl, ⟨⟨rfl, rfl⟩, trivial⟩⟩⟩⟩, gd h0 rfl⟩, gd h0 rfl⟩, h0⟩
theorem c3b_came (a : List Tx) (b : List Tx) (h0 : lgB a = false) (h1 : lgB b = true) :
    RanC (runO Tryz.prog E1 (s3w a b) noRun 100 3 [Value.chan (some 1), Value.chan (some 3)] (mkHp 4 (wordsOs [Wd.d (txsD a) (List.length a), Wd.d (txsD b) (List.length b)] 0 fun n => n)) [.skip 4, .b true, .skip 1, .b true, .skip 1, .b false, .b true] True) (.returned (Value.bool true)) [(0, AObj.ro (txsD a)), (1, AObj.word (List.length a) 0), (2, AObj.ro (txsD b)), (3, AObj.word (List.length b) 2)] 4 :=
  cameCF_of (O := ((((((True ∧ True ∧ [Value.chan (some 1)] = [Value.chan (some 1)] ∧ (Wd.len (Wd.d (txsD a) (List.length a)) = Wd.len (Wd.d (txsD a) (List.length a)) ∧ txsD a = txsD a) ∧ True) ∧ (lgB a == false) = true) ∧ (lgB a == false) = true) ∧ True ∧ [Value.chan (some 3)] = [Value.chan (some 3)] ∧ (Wd.len (Wd.d (txsD b) (List.length b)) = Wd.len (Wd.d (txsD b) (List.length b)) ∧ txsD b = txsD b) ∧ True) ∧ lgB a = false) ∧ lgB b = true)) (by kernel_rfl) ⟨⟨⟨⟨⟨⟨trivial, ⟨trivial, ⟨rfl, ⟨⟨rfl, rfl⟩, trivial⟩⟩⟩⟩, gd h0 rfl⟩, gd h0 rfl⟩, ⟨trivial, ⟨rfl, ⟨⟨rfl, rfl⟩, trivial⟩⟩⟩⟩, h0⟩, h1⟩
theorem c3c_came (a : List Tx) (b : List Tx) (p : Bool) (h0 : lgB a = false) (h1 : lgB b = false) (h2 : List.take (List.length (rowT a (List.length a + 64))) (List.drop 0 (rowT a (List.length a + 64))) = rowT a (List.length a + 64)) (h3 : List.take (List.length (rowT b (List.length b + 64))) (List.drop 0 (rowT b (List.length b + 64))) = rowT b (List.length b + 64)) (h4 : (p == p) = true) (h5 : True) :
    RanC (runO Tryz.prog E1 (s3 a b p) noRun 100 3 [Value.chan (some 1), Value.chan (some 3)] (mkHp 4 (wordsOs [Wd.d (txsD a) (List.length a), Wd.d (txsD b) (List.length b)] 0 fun n => n)) [.skip 4, .b true, .skip 1, .b true, .skip 1, .b false, .b false, .skip 6, .frz 6, .frz 9, .skip 40, .b true, .skip 1, .b true, .skip 1, .b true, .skip 1, .b true, .skip 1, .b true, .skip 1, .b true] True) (.returned (Value.bool true)) [(0, AObj.ro (txsD a)), (1, AObj.word (List.length a) 0), (2, AObj.ro (txsD b)), (3, AObj.word (List.length b) 2), (4, AObj.ro (txsD a)), (5, AObj.word (List.length a) 4), (6, AObj.ro (rowT a (List.length a + 64))), (7, AObj.ro (txsD b)), (8, AObj.word (List.length b) 7), (9, AObj.ro (rowT b (List.length b + 64)))] 10 :=
  cameCF_of (O := ((((((((((((((((((((((True ∧ True ∧ [Value.chan (some 1)] = [Value.chan (some 1)] ∧ (Wd.len (Wd.d (txsD a) (List.length a)) = Wd.len (Wd.d (txsD a) (List.length a)) ∧ txsD a = txsD a) ∧ True) ∧ (lgB a == false) = true) ∧ (lgB a == false) = true) ∧ True ∧ [Value.chan (some 3)] = [Value.chan (some 3)] ∧ (Wd.len (Wd.d (txsD b) (List.length b)) = Wd.len (Wd.d (txsD b) (List.length b)) ∧ txsD b = txsD b) ∧ True) ∧ lgB a = false) ∧ lgB b = false) ∧ True ∧ [Value.chan (some 1)] = [Value.chan (some 1)] ∧ (Wd.len (Wd.d (txsD a) (List.length a)) = Wd.len (Wd.d (txsD a) (List.length a)) ∧ txsD a = txsD a) ∧ True) ∧ True ∧ [Value.chan (some 3)] = [Value.chan (some 3)] ∧ (Wd.len (Wd.d (txsD b) (List.length b)) = Wd.len (Wd.d (txsD b) (List.length b)) ∧ txsD b = txsD b) ∧ True) ∧ True ∧ [Value.slice (some ⟨6, 0, none⟩) (List.length a) (2 * (List.length a + 64)), Value.slice (some ⟨9, 0, none⟩) (List.length b) (2 * (List.length b + 64))] = [Value.slice (some ⟨6, 0, none⟩) (List.length a) (2 * (List.length a + 64)), Value.slice (some ⟨9, 0, none⟩) (List.length b) (2 * (List.length b + 64))] ∧ (Wd.len (wT a) = Wd.len (wT a) ∧ List.take (List.length (rowT a (List.length a + 64))) (List.drop 0 (rowT a (List.length a + 64))) = rowT a (List.length a + 64)) ∧ (Wd.len (wT b) = Wd.len (wT b) ∧ List.take (List.length (rowT b (List.length b + 64))) (List.drop 0 (rowT b (List.length b + 64))) = rowT b (List.length b + 64)) ∧ True) ∧ True ∧ [Value.slice (some ⟨9, 0, none⟩) (List.length b) (2 * (List.length b + 64)), Value.slice (some ⟨6, 0, none⟩) (List.length a) (2 * (List.length a + 64))] = [Value.slice (some ⟨9, 0, none⟩) (List.length b) (2 * (List.length b + 64)), Value.slice (some ⟨6, 0, none⟩) (List.length a) (2 * (List.length a + 64))] ∧ (Wd.len (wT b) = Wd.len (wT b) ∧ List.take (List.length (rowT b (List.length b + 64))) (List.drop 0 (rowT b (List.length b + 64))) = rowT b (List.length b + 64)) ∧ (Wd.len (wT a) = Wd.len (wT a) ∧ List.take (List.length (rowT a (List.length a + 64))) (List.drop 0 (rowT a (List.length a + 64))) = rowT a (List.length a + 64)) ∧ True) ∧ True ∧ [Value.chan (some 1), Value.chan (some 3)] = [Value.chan (some 1), Value.chan (some 3)] ∧ (Wd.len (Wd.d (txsD a) (List.length a)) = Wd.len (Wd.d (txsD a) (List.length a)) ∧ txsD a = txsD a) ∧ (Wd.len (Wd.d (txsD b) (List.length b)) = Wd.len (Wd.d (txsD b) (List.length b)) ∧ txsD b = txsD b) ∧ True) ∧ True ∧ [Value.slice (some ⟨6, 0, none⟩) (List.length a) (2 * (List.length a + 64)), Value.chan (some 1)] = [Value.slice (some ⟨6, 0, none⟩) (List.length a) (2 * (List.length a + 64)), Value.chan (some 1)] ∧ (Wd.len (wT a) = Wd.len (wT a) ∧ List.take (List.length (rowT a (List.length a + 64))) (List.drop 0 (rowT a (List.length a + 64))) = rowT a (List.length a + 64)) ∧ (Wd.len (Wd.d (txsD a) (List.length a)) = Wd.len (Wd.d (txsD a) (List.length a)) ∧ txsD a = txsD a) ∧ True) ∧ True ∧ [Value.slice (some ⟨9, 0, none⟩) (List.length b) (2 * (List.length b + 64)), Value.chan (some 3)] = [Value.slice (some ⟨9, 0, none⟩) (List.length b) (2 * (List.length b + 64)), Value.chan (some 3)] ∧ (Wd.len (wT b) = Wd.len (wT b) ∧ List.take (List.length (rowT b (List.length b + 64))) (List.drop 0 (rowT b (List.length b + 64))) = rowT b (List.length b + 64)) ∧ (Wd.len (Wd.d (txsD b) (List.length b)) = Wd.len (Wd.d (txsD b) (List.length b)) ∧ txsD b = txsD b) ∧ True) ∧ ([Value.slice (some ⟨6, 0, none⟩) (List.length a) (2 * (List.length a + 64))] = [Value.slice (some ⟨6, 0, none⟩) (List.length a) (2 * (List.length a + 64))] ∧ true = true ∧ true = true) ∧ rowT a (List.length a + 64) = rowT a (List.length a + 64) ∧ True) ∧ ([Value.slice (some ⟨9, 0, none⟩) (List.length b) (2 * (List.length b + 64))] = [Value.slice (some ⟨9, 0, none⟩) (List.length b) (2 * (List.length b + 64))] ∧ true = true ∧ true = true) ∧ rowT b (List.length b + 64) = rowT b (List.length b + 64) ∧ True) ∧ ((p == p) == true) = true) ∧ ((p == p) == true) = true) ∧ ((p == p) == true) = true) ∧ (p == p) = true) ∧ ((p == p) == true) = true) ∧ (p == p) = true) ∧ True)) (by kernel_rfl) ⟨⟨⟨⟨⟨⟨⟨⟨⟨⟨⟨⟨⟨⟨⟨⟨⟨⟨⟨⟨⟨⟨trivial, ⟨trivial, ⟨rfl, ⟨⟨rfl, rfl⟩, trivial⟩⟩⟩⟩, gd h0 rfl⟩, gd h0 rfl⟩, ⟨trivial, ⟨rfl, ⟨⟨rfl, rfl⟩, trivial⟩⟩⟩⟩, h0⟩, h1⟩, ⟨trivial, ⟨rfl, ⟨⟨rfl, rfl⟩, trivial⟩⟩⟩⟩, ⟨trivial, ⟨rfl, ⟨⟨rfl, rfl⟩, trivial⟩⟩⟩⟩, ⟨trivial, ⟨rfl, ⟨⟨rfl, h2⟩, ⟨⟨rfl, h3⟩, trivial⟩⟩⟩⟩⟩, ⟨trivial, ⟨rfl, ⟨⟨rfl, h3⟩, ⟨⟨rfl, h2⟩, trivial⟩⟩⟩⟩⟩, ⟨trivial, ⟨rfl, ⟨⟨rfl, rfl⟩, ⟨⟨rfl, rfl⟩, trivial⟩⟩⟩⟩⟩, ⟨trivial, ⟨rfl, ⟨⟨rfl, h2⟩, ⟨⟨rfl, rfl⟩, trivial⟩⟩⟩⟩⟩, ⟨trivial, ⟨rfl, ⟨⟨rfl, h3⟩, ⟨⟨rfl, rfl⟩, trivial⟩⟩⟩⟩⟩, ⟨⟨rfl, ⟨rfl, rfl⟩⟩, ⟨rfl, trivial⟩⟩⟩, ⟨⟨rfl, ⟨rfl, rfl⟩⟩, ⟨rfl, trivial⟩⟩⟩, gd h4 rfl⟩, gd h4 rfl⟩, gd h4 rfl⟩, h4⟩, gd h4 rfl⟩, h4⟩, h5⟩
theorem rqsV_parts (l : List Rq) (ih : ∀ r ∈ l, ∀ N : Nat, r.pV N ≤ 20000 → r.pV N = N + r.parts) : ∀ N : Nat, rqsV l N ≤ 20000 → rqsV l N = N + rqsParts l := by
  induction l with
  | nil => intro N _; rw [rqsV, rqsParts, Nat.add_zero]
  | cons r rs IH =>
    intro N hl
    rw [rqsV] at hl ⊢
    rw [rqsParts]
    by_cases hN : N ≤ 20000
    · rw [if_pos hN] at hl ⊢
      have h1 := IH (fun r hr => ih r (List.mem_cons_of_mem _ hr)) _ hl
      have h2 := ih r (List.mem_cons_self ..) N (by omega)
      omega
    · rw [if_neg hN] at hl
      omega
theorem pV_parts (m : Nat) : ∀ (r : Rq) (N : Nat), r.parts ≤ m → r.pV N ≤ 20000 → r.pV N = N + r.parts := by
  induction m with
  | zero => intro r N hm; cases r; rw [Rq.parts] at hm; omega
  | succ m IH =>
    intro r N hm hl
    cases r with
    | mk h ops =>
      rw [Rq.parts] at hm ⊢
      rw [Rq.pV] at hl ⊢
      have := rqsV_parts ops (fun r hr N hN => IH r N (by have := parts_mem hr; omega) hN) _ hl
      omega
theorem lg_small (l : List Tx) : ∀ N : Nat, lgF l N = false → lgN l N ≤ 1000000 → N + l.length ≤ 1000001 ∧ ∀ t ∈ l, t.r.pV 0 ≤ 20000 := by
  induction l with
  | nil => intro N _ h; rw [lgN] at h; exact ⟨by rw [List.length_nil]; omega, fun t ht => by cases ht⟩
  | cons t r IH =>
    intro N h h'
    rw [lgF] at h
    rw [lgN] at h'
    by_cases hN : N ≤ 1000000
    · rw [if_pos hN] at h h'
      by_cases hp : 20000 < t.r.pV 0
      · rw [if_pos hp] at h; cases h
      · rw [if_neg hp] at h h'
        obtain ⟨h1, h2⟩ := IH _ h h'
        refine ⟨by rw [List.length_cons]; omega, fun u hu => ?_⟩
        rcases List.mem_cons.1 hu with rfl | hu
        · omega
        · exact h2 u hu
    · rw [if_neg hN] at h'
      omega
theorem small_of {l : List Tx} (h : lgB l = false) : l.length < 1099511627776 ∧ ∀ t ∈ l, t.r.parts < 1099511627776 := by
  unfold lgB at h
  simp only [Bool.or_eq_false_iff, decide_eq_false_iff_not] at h
  obtain ⟨h1, h2⟩ := lg_small l 0 h.1 (by omega)
  refine ⟨by omega, fun t ht => ?_⟩
  have := h2 t ht
  have := pV_parts _ t.r 0 (Nat.le_refl _) this
  omega
structure TxsOk (l : List Tx) : Prop where
  len : l.length ≤ 1125899906842624
  big : ∀ t ∈ l, t.r.big
  rng : ∀ t ∈ l, t.r.rng
theorem large_ok {pr : Prot} {w0 : World} (hG : TabZ pr w0) {a b : List Tx} (ha : TxsOk a) (hb : TxsOk b) : SumOk Tryz.prog pr w0 0 4 (pureS (fnP (largeG a b))) := by
  refine fnP_ok tabz_stands hG fun args μ X k p h hp => ?_
  unfold largeG at h
  split at h
  · rename_i n
    cases hn : Nat.beq n 1 with
    | true => rw [hn, cond_true] at h; cases h; exact ⟨(con4 ha.len ha.big).zT, fun _ => rfl, fun _ => rfl, pure_bool _⟩
    | false => rw [hn, cond_false] at h; cases h; exact ⟨(con4 hb.len hb.big).zT, fun _ => rfl, fun _ => rfl, pure_bool _⟩
  · cases h
theorem txns_ok {pr : Prot} {w0 : World} (hG : TabZ pr w0) {a b : List Tx} (ha : lgB a = false) (hb : lgB b = false) : SumOk Tryz.prog pr w0 0 5 (fnW (txnsG a b)) := by
  refine fnW_ok tabz_stands hG fun args μ X k p h hp => ?_
  unfold txnsG at h
  split at h
  · rename_i n
    cases hn : Nat.beq n 1 with
    | true => rw [hn, cond_true] at h; cases h; exact (con5 (small_of ha).1 (small_of ha).2).toZ
    | false => rw [hn, cond_false] at h; cases h; exact (con5 (small_of hb).1 (small_of hb).2).toZ
  · cases h
theorem con6w {a b : List Tx} (ha : TxsOk a) (hb : TxsOk b) : ConWG GT Tryz.prog 6 (K6 a b (prefB a b)) :=
  (con6 ha.len ha.big ha.rng hb.rng).weak (ws := [wT a, wT b]) rfl fun i h => match i, h with
    | 0, _ => Wd.le_d (rowT_dw a)
    | 1, _ => Wd.le_d (rowT_dw b)
    | i + 2, h => absurd h (by simp [kn6])
theorem con8w {a : List Tx} (ha : TxsOk a) : ConWG GT Tryz.prog 8 (K8 a) := by
  have h := con8 (m := a) ha.len ha.big
  have := h.weak (ws := [wT a, .d (txsD a) a.length]) rfl fun i h => match i, h with
    | 0, _ => Wd.le_d (rowT_dw a)
    | 1, _ => Wd.le_refl _
    | i + 2, h => absurd h (by simp [kn8])
  unfold kn8 at this
  rw [txsEq_self] at this
  exact this
theorem pref_ok {pr : Prot} {w0 : World} (hG : TabZ pr w0) {a b : List Tx} (ha : TxsOk a) (hb : TxsOk b) : SumOk Tryz.prog pr w0 0 6 (pureS (fnP (prefG a b (prefB a b)))) := by
  refine fnP_ok tabz_stands hG fun args μ X k p h hp => ?_
  unfold prefG at h
  split at h
  · rename_i s n m y
    cases hn : Nat.beq s.block 6 with
    | true => rw [hn, cond_true] at h; cases h; exact ⟨(con6w ha hb).zT, fun _ => rfl, fun _ => rfl, pure_bool _⟩
    | false =>
      rw [hn, cond_false] at h; cases h
      have := con6w hb ha
      rw [prefB_comm] at this
      exact ⟨this.zT, fun _ => rfl, fun _ => rfl, pure_bool _⟩
  · cases h
theorem ref_ok {pr : Prot} {w0 : World} (hG : TabZ pr w0) {a b : List Tx} (ha : TxsOk a) : SumOk Tryz.prog pr w0 0 7 (pureS (fnP (refG a b (prefB a b)))) := by
  refine fnP_ok tabz_stands hG fun args μ X k p h hp => ?_
  unfold refG at h
  split at h
  · cases h; exact ⟨(con7 (m := b) ha.len ha.big).zT, fun _ => rfl, fun _ => rfl, pure_bool _⟩
  · cases h
theorem eq_ok {pr : Prot} {w0 : World} (hG : TabZ pr w0) {a b : List Tx} (ha : TxsOk a) (hb : TxsOk b) : SumOk Tryz.prog pr w0 0 8 (pureS (fnP (eqG a b))) := by
  refine fnP_ok tabz_stands hG fun args μ X k p h hp => ?_
  unfold eqG at h
  split at h
  · rename_i s n m y
    cases hn : Nat.beq s.block 6 with
    | true => rw [hn, cond_true] at h; cases h; exact ⟨(con8w ha).zT, fun _ => rfl, fun _ => rfl, pure_bool _⟩
    | false => rw [hn, cond_false] at h; cases h; exact ⟨(con8w hb).zT, fun _ => rfl, fun _ => rfl, pure_bool _⟩
  · cases h
theorem spare_ok {pr : Prot} {w0 : World} (hG : TabZ pr w0) {a b : List Tx} (ha : lgB a = false) (hb : lgB b = false) : SumOk Tryz.prog pr w0 0 9 (spareS a b) := by
  intro args μ e μ' p h
  unfold spareS at h
  split at h
  · rename_i s n m
    cases hn : Nat.beq s.block 6 with
    | true => rw [hn, cond_true] at h; exact pv_ok hG.1 (con9 (small_of ha).1 (small_of ha).2) _ μ e μ' p h
    | false => rw [hn, cond_false] at h; exact pv_ok hG.1 (con9 (small_of hb).1 (small_of hb).2) _ μ e μ' p h
  · cases h
def kn3 (a b : List Tx) : ConW := ⟨fun X => [X 0, X 1], [.d (txsD a) a.length, .d (txsD b) b.length], fun _ => .bool true, fun _ => []⟩
theorem con3 {a b : List Tx} (ha : TxsOk a) (hb : TxsOk b) : ConWG TabZ Tryz.prog 3 (kn3 a b) := by
  have hF : ∀ os, (∀ p ∈ os, p.1 < 4 ∧ BdO 4 p.2) → smallN os = true → Fits 4 [] os 4 := fun os h1 h2 => ⟨rfl, h2, by simp, h1, by decide, by decide⟩
  have hA : ∀ (x : Value), x ∈ [Value.chan (some 1), Value.chan (some 3)] → Bd 4 x := by simp
  have ap : ∀ (ι ι' : Ren) (f g : Nat → Value), (∀ i, i < 2 → conc ι (f i) = conc ι' (g i)) → ([f 0, f 1]).map (conc ι) = ([g 0, g 1]).map (conc ι') := by
    intro ι ι' f g h
    simp [h 0 (by decide), h 1 (by decide)]
  have hb4 : ∀ p ∈ ([(0, AObj.ro (txsD a)), (1, .word a.length 0), (2, .ro (txsD b)), (3, .word b.length 2)] : List (Nat × AObj)), p.1 < 4 ∧ BdO 4 p.2 := by simp [BdO]
  cases hw : lgB a with
  | true =>
    exact conW_read (args := fun X => [X 0, X 1]) (ws := [.d (txsD a) a.length, .d (txsD b) b.length]) hP1 (fun pr w0 hG => withQ_ok (sm0_ok pr w0) (large_ok hG ha hb)) (c3a_came a b hw) (by simp [limit]) (hF _ hb4 rfl) hA (pure_bool _) ap (fun _ => by simp [upV])
  | false =>
    cases hw' : lgB b with
    | true =>
      exact conW_read (args := fun X => [X 0, X 1]) (ws := [.d (txsD a) a.length, .d (txsD b) b.length]) hP1 (fun pr w0 hG => withQ_ok (sm0_ok pr w0) (large_ok hG ha hb)) (c3b_came a b hw hw') (by simp [limit]) (hF _ hb4 rfl) hA (pure_bool _) ap (fun _ => by simp [upV])
    | false =>
      exact conW_read (args := fun X => [X 0, X 1]) (ws := [.d (txsD a) a.length, .d (txsD b) b.length]) hP1
        (fun pr w0 hG => withQ_ok (withQ_ok (withS_ok (withQ_ok (withQ_ok (withQ_ok (withS_ok (sm0_ok pr w0) (txns_ok hG hw hw')) (large_ok hG ha hb)) (pref_ok hG ha hb)) (ref_ok hG ha)) (spare_ok hG hw hw')) (eq_ok hG ha hb)) (lives_ok hG))
        (c3c_came a b (prefB a b) hw hw' (by rw [List.drop_zero, List.take_length]) (by rw [List.drop_zero, List.take_length]) (by simp) trivial) (by simp [limit]) ⟨rfl, rfl, by simp, by simp [BdO], by decide, by simp⟩ hA (pure_bool _) ap (fun _ => by simp [upV])
end Go.Abs
end
section
namespace Go.Abs
open Go.Proofs Go.ChangeShapes Go.WideShapes Go.ChangeAt Go.RowKit
set_option maxRecDepth 100000
def Ref (d d' : Deep) : Prop := ∀ (w : World) (v : Value), DeepOk (fun _ => True) w d v → DeepOk (fun _ => True) w d' v
def RefL (ds ds' : List Deep) : Prop := ds.length = ds'.length ∧ ∀ (i : Nat) (d d' : Deep), ds[i]? = some d → ds'[i]? = some d' → Ref d d'
theorem Ref.refl (d : Deep) : Ref d d := fun _ _ h => h
section
variable {P : Program} {R : Nat} {n : Nat} {t : TypeId}
theorem fitInt {k : IntKind} {ds : List Deep} (ht : P.underlying t = some (.int k)) (hf : FitD P R n t ds) : ∃ i, ds = [.val (.int k i)] ∧ (Lit.int k i).wf = true := by
  cases n with
  | zero => exact hf.elim
  | succ n => unfold FitD at hf; rw [ht] at hf; exact hf
theorem fitStr {ds : List Deep} (ht : P.underlying t = some .string) (hf : FitD P R n t ds) : ∃ s : ByteArray, ds = [.val (.string s)] ∧ s.size ≤ R := by
  cases n with
  | zero => exact hf.elim
  | succ n =>
    unfold FitD at hf; rw [ht] at hf
    obtain ⟨s, h1, _, h2⟩ := hf
    exact ⟨s, h1, h2⟩
theorem fitSlice {e : TypeId} {ds : List Deep} (ht : P.underlying t = some (.slice e)) (hb : 1 ≤ P.bytesOf e) (hf : FitD P R n t ds) :
    ∃ d m es len, m < n ∧ ds = [d] ∧ Ref d (.sl es len) ∧ es.length = len * P.cellsOf e ∧ len ≤ R ∧ ∀ i, i < len → FitD P R m e ((es.drop (i * P.cellsOf e)).take (P.cellsOf e)) := by
  cases n with
  | zero => exact hf.elim
  | succ n =>
    unfold FitD at hf; rw [ht] at hf
    rcases hf with rfl | ⟨sp, rfl⟩ | ⟨es, len, cap, rfl, h1, h2, h3, h4, h5, h6⟩
    · refine ⟨_, 0, [], 0, Nat.succ_pos _, rfl, fun w v h => ?_, by simp, Nat.zero_le _, fun i hi => absurd hi (by omega)⟩
      rw [deepOk_val] at h
      rw [deepOk_sl]
      exact .inl ⟨rfl, rfl, none, 0, h.1⟩
    · refine ⟨_, 0, [], 0, Nat.succ_pos _, rfl, fun w v h => ?_, by simp, Nat.zero_le _, fun i hi => absurd hi (by omega)⟩
      rw [deepOk_void] at h
      obtain ⟨b, o, rfl⟩ := h
      rw [deepOk_sl]
      exact .inl ⟨rfl, rfl, _, _, rfl⟩
    · refine ⟨_, n, es.take (len * P.cellsOf e), len, Nat.lt_succ_self _, rfl, fun w v h => ?_, ?_, ?_, fun i hi => ?_⟩
      · rw [deepOk_row] at h
        obtain ⟨b, o, rfl, hc⟩ := h
        rw [deepOk_sl]
        refine .inr ⟨b, o, cap, rfl, fun i hi => ?_⟩
        rw [List.length_take] at hi
        rw [List.getElem_take]
        exact hc i (by omega)
      · rw [List.length_take, h5, Nat.min_eq_left (Nat.mul_le_mul_right _ h1)]
      · have : cap * 1 ≤ cap * P.bytesOf e := Nat.mul_le_mul_left _ hb
        omega
      · have hle : i * P.cellsOf e + P.cellsOf e ≤ len * P.cellsOf e := by rw [← Nat.succ_mul]; exact Nat.mul_le_mul_right _ hi
        rw [List.drop_take, List.take_take, Nat.min_eq_left (by omega)]
        exact h6 i (by omega)
end
theorem choose_list {α : Type} (x0 : α) {Q : Nat → α → Prop} : ∀ (n : Nat), (∀ j, j < n → ∃ x, Q j x) → ∃ l : List α, l.length = n ∧ ∀ j, j < n → Q j (l.getD j x0)
  | 0, _ => ⟨[], rfl, fun j hj => absurd hj (by omega)⟩
  | n + 1, h => by
    obtain ⟨l, hl, hq⟩ := choose_list x0 n fun j hj => h j (by omega)
    obtain ⟨x, hx⟩ := h n (by omega)
    refine ⟨l ++ [x], by simp [hl], fun j hj => ?_⟩
    by_cases hjn : j < n
    · rw [List.getD_eq_getElem?_getD, List.getElem?_append_left (by omega), ← List.getD_eq_getElem?_getD]; exact hq j hjn
    · have : j = n := by omega
      subst this
      rw [List.getD_eq_getElem?_getD, List.getElem?_append_right (by omega), hl, Nat.sub_self]
      exact hx
theorem rows_split {α : Type} {es : List α} {s : Nat} : ∀ {n : Nat}, es.length = n * s → es = rows (fun j => (es.drop (j * s)).take s) n := by
  intro n h
  have key : ∀ k, k ≤ n → rows (fun j => (es.drop (j * s)).take s) k = es.take (k * s) := by
    intro k
    induction k with
    | zero => intro _; simp [rows]
    | succ k ih =>
      intro hk
      rw [rows_succ, ih (by omega), Nat.succ_mul, List.take_add]
  rw [key n (Nat.le_refl _), List.take_of_length_le (by omega)]
theorem ref_vals {vs : List Value} {len : Nat} (h : ∀ v ∈ vs, Pure v) : Ref (.sl (vs.map .val) len) (.slv vs len) := by
  intro w v hd
  rw [deepOk_sl] at hd
  rw [deepOk_slv]
  rcases hd with ⟨h1, h2, h3⟩ | ⟨b, o, c, rfl, hc⟩
  · exact .inl ⟨h1, by simpa using h2, h3⟩
  · refine .inr ⟨b, o, c, rfl, fun i u hu => ?_⟩
    have hi : i < vs.length := (List.getElem?_eq_some_iff.1 hu).1
    obtain ⟨g1, g2, u', g3, g4⟩ := hc i (by simpa using hi)
    rw [List.getElem_map, deepOk_val] at g4
    have e : vs[i] = u := by rw [List.getElem?_eq_getElem hi] at hu; exact Option.some.inj hu
    rw [e] at g4
    obtain ⟨rfl, hp⟩ := g4
    exact ⟨g1, g2, g3, hp⟩
theorem Ref.trans {a b c : Deep} (h : Ref a b) (h' : Ref b c) : Ref a c := fun w v hv => h' w v (h w v hv)
theorem wf_rng {k : IntKind} {i : Int} (h : (Lit.int k i).wf = true) : k.min ≤ i ∧ i ≤ k.max := by
  simpa [Lit.wf] using h
theorem c2' : Tryz.prog.cellsOf 2 = 1 := by kernel_rfl
theorem c4' : Tryz.prog.cellsOf 4 = 1 := by kernel_rfl
theorem c5' : Tryz.prog.cellsOf 5 = 1 := by kernel_rfl
theorem c9' : Tryz.prog.cellsOf 9 = 1 := by kernel_rfl
theorem c21' : Tryz.prog.cellsOf 21 = 1 := by kernel_rfl
theorem c28' : Tryz.prog.cellsOf 28 = 1 := by kernel_rfl
theorem c30' : Tryz.prog.cellsOf 30 = 2 := by kernel_rfl
theorem c31' : Tryz.prog.cellsOf 31 = 1 := by kernel_rfl
theorem c33' : Tryz.prog.cellsOf 33 = 3 := by kernel_rfl
theorem c34' : Tryz.prog.cellsOf 34 = 1 := by kernel_rfl
theorem c35' : Tryz.prog.cellsOf 35 = 1 := by kernel_rfl
theorem c36' : Tryz.prog.cellsOf 36 = 1 := by kernel_rfl
theorem c37' : Tryz.prog.cellsOf 37 = 1 := by kernel_rfl
theorem c39' : Tryz.prog.cellsOf 39 = 11 := by kernel_rfl
theorem c41' : Tryz.prog.cellsOf 41 = 16 := by kernel_rfl
theorem c101' : Tryz.prog.cellsOf 101 = 2 := by kernel_rfl
theorem c103' : Tryz.prog.cellsOf 103 = 3 := by kernel_rfl
theorem b5' : 1 ≤ Tryz.prog.bytesOf 5 := of_decide_eq_true (by kernel_rfl)
theorem b103' : 1 ≤ Tryz.prog.bytesOf 103 := of_decide_eq_true (by kernel_rfl)
theorem b101' : 1 ≤ Tryz.prog.bytesOf 101 := of_decide_eq_true (by kernel_rfl)
theorem b39' : 1 ≤ Tryz.prog.bytesOf 39 := of_decide_eq_true (by kernel_rfl)
theorem b41' : 1 ≤ Tryz.prog.bytesOf 41 := of_decide_eq_true (by kernel_rfl)
theorem len2 {α : Type} : ∀ {l : List α}, l.length = 2 → ∃ a0 a1, l = [a0, a1]
  | [a0, a1], _ => ⟨a0, a1, rfl⟩
theorem len3 {α : Type} : ∀ {l : List α}, l.length = 3 → ∃ a0 a1 a2, l = [a0, a1, a2]
  | [a0, a1, a2], _ => ⟨a0, a1, a2, rfl⟩
theorem len11 {α : Type} : ∀ {l : List α}, l.length = 11 → ∃ a0 a1 a2 a3 a4 a5 a6 a7 a8 a9 a10, l = [a0, a1, a2, a3, a4, a5, a6, a7, a8, a9, a10]
  | [a0, a1, a2, a3, a4, a5, a6, a7, a8, a9, a10], _ => ⟨a0, a1, a2, a3, a4, a5, a6, a7, a8, a9, a10, rfl⟩
theorem len16 {α : Type} : ∀ {l : List α}, l.length = 16 → ∃ a0 a1 a2 a3 a4 a5 a6 a7 a8 a9 a10 a11 a12 a13 a14 a15, l = [a0, a1, a2, a3, a4, a5, a6, a7, a8, a9, a10, a11, a12, a13, a14, a15]
  | [a0, a1, a2, a3, a4, a5, a6, a7, a8, a9, a10, a11, a12, a13, a14, a15], _ => ⟨a0, a1, a2, a3, a4, a5, a6, a7, a8, a9, a10, a11, a12, a13, a14, a15, rfl⟩
section
variable {R n : Nat}
theorem fitBool {P : Program} {t : TypeId} {ds : List Deep} (ht : P.underlying t = some .bool) (hf : FitD P R n t ds) : ∃ b, ds = [.val (.bool b)] := by
  cases n with
  | zero => exact hf.elim
  | succ n => unfold FitD at hf; rw [ht] at hf; exact hf
theorem fit34 {ds : List Deep} (hf : FitD Tryz.prog R n 34 ds) : ∃ d bs, ds = [d] ∧ Ref d (.slv (bv bs) bs.length) ∧ bs.length ≤ R ∧ byteOk bs := by
  obtain ⟨d, m, es, len, _, rfl, hr, hl, hR, he⟩ := fitSlice Tryz.underlying34 b5' hf
  rw [c5'] at hl he
  obtain ⟨bs, hbl, hb⟩ := choose_list (0 : Int) len (Q := fun j x => (es.drop (j * 1)).take 1 = [.val (.int .u8 x)] ∧ 0 ≤ x ∧ x < 256) fun j hj => by
    obtain ⟨i, hi, hw⟩ := fitInt Tryz.underlying5 (he j hj)
    have hw := wf_rng hw
    exact ⟨i, hi, hw.1, Int.lt_of_le_of_lt hw.2 (by decide)⟩
  have e : es = (bv bs).map .val := by
    rw [rows_split hl, bv_rows, hbl, rows_map]
    exact rows_ext fun j hj => (hb j hj).1
  refine ⟨d, bs, rfl, ?_, by omega, fun b hm => ?_⟩
  rotate_left
  · obtain ⟨j, hj, rfl⟩ := List.getElem_of_mem hm
    have := (hb j (by omega)).2
    rwa [List.getD_eq_getElem?_getD, List.getElem?_eq_getElem hj] at this
  rw [e] at hr
  rw [hbl]
  exact hr.trans (ref_vals fun v hv => by
    obtain ⟨b, _, rfl⟩ := List.mem_map.1 hv
    exact pure_int _ _)
theorem fit101 {ds : List Deep} (hf : FitD Tryz.prog R n 101 ds) : ∃ a : Idd, ds = (cellI a).map .val := by
  obtain ⟨m, rfl, hl, hfs⟩ := fit_field Tryz.underlying101 hf
  rw [c101'] at hl
  obtain ⟨a, b, rfl⟩ := len2 hl
  obtain ⟨s, hs, _⟩ := fitStr Tryz.underlying9 (fit_part hfs (i := 0) rfl (u := 9) rfl c9')
  obtain ⟨d, hd, _⟩ := fitStr Tryz.underlying9 (fit_part hfs (i := 1) rfl (u := 9) rfl c9')
  simp at hs hd
  subst hs; subst hd
  exact ⟨(s, d), rfl⟩
theorem fit103 {ds : List Deep} (hf : FitD Tryz.prog R n 103 ds) : ∃ e : Ent, ds = (cellA e).map .val := by
  obtain ⟨m, rfl, hl, hfs⟩ := fit_field Tryz.underlying103 hf
  rw [c103'] at hl
  obtain ⟨a, b, c, rfl⟩ := len3 hl
  obtain ⟨p, hp, _⟩ := fitInt Tryz.underlying31 (fit_part hfs (i := 0) rfl (u := 31) rfl c31')
  obtain ⟨x, hx⟩ := fit101 (fit_part hfs (i := 1) rfl (u := 101) rfl c101')
  simp [cellI] at hp hx
  obtain ⟨rfl, rfl⟩ := hx
  subst hp
  exact ⟨(p, x.1, x.2), rfl⟩
theorem fit35 {ds : List Deep} (hf : FitD Tryz.prog R n 35 ds) : ∃ d es, ds = [d] ∧ Ref d (.slv (av es) es.length) ∧ es.length ≤ R := by
  obtain ⟨d, m, es, len, _, rfl, hr, hl, hR, he⟩ := fitSlice Tryz.underlying35 b103' hf
  rw [c103'] at hl he
  obtain ⟨al, hal, ha⟩ := choose_list ((0, ⟨#[]⟩, ⟨#[]⟩) : Ent) len (Q := fun j e => (es.drop (j * 3)).take 3 = (cellA e).map .val) fun j hj => fit103 (he j hj)
  have e : es = (av al).map .val := by
    rw [rows_split hl, av, hal, rows_map]
    exact rows_ext fun j hj => ha j hj
  refine ⟨d, al, rfl, ?_, by omega⟩
  rw [e] at hr
  rw [hal]
  refine hr.trans (ref_vals fun v hv => ?_)
  obtain ⟨j, _, hj⟩ := rows_mem hv
  simp [cellA] at hj
  rcases hj with rfl | rfl | rfl
  · exact pure_int _ _
  · exact fun ι => by simp
  · exact fun ι => by simp
theorem fit36 {ds : List Deep} (hf : FitD Tryz.prog R n 36 ds) : ∃ d es, ds = [d] ∧ Ref d (.slv (iv es) es.length) ∧ es.length ≤ R := by
  obtain ⟨d, m, es, len, _, rfl, hr, hl, hR, he⟩ := fitSlice Tryz.underlying36 b101' hf
  rw [c101'] at hl he
  obtain ⟨al, hal, ha⟩ := choose_list ((⟨#[]⟩, ⟨#[]⟩) : Idd) len (Q := fun j e => (es.drop (j * 2)).take 2 = (cellI e).map .val) fun j hj => fit101 (he j hj)
  have e : es = (iv al).map .val := by
    rw [rows_split hl, iv, hal, rows_map]
    exact rows_ext fun j hj => ha j hj
  refine ⟨d, al, rfl, ?_, by omega⟩
  rw [e] at hr
  rw [hal]
  refine hr.trans (ref_vals fun v hv => ?_)
  obtain ⟨j, _, hj⟩ := rows_mem hv
  simp [cellI] at hj
  rcases hj with rfl | rfl
  · exact fun ι => by simp
  · exact fun ι => by simp
theorem refL_cons {a b : Deep} {ds es : List Deep} (h : Ref a b) (h' : RefL ds es) : RefL (a :: ds) (b :: es) := by
  refine ⟨by simp [h'.1], fun i d d' hd hd' => ?_⟩
  cases i with
  | zero => simp at hd hd'; subst hd; subst hd'; exact h
  | succ i => exact h'.2 i d d' (by simpa using hd) (by simpa using hd')
theorem refL_refl (ds : List Deep) : RefL ds ds := ⟨rfl, fun i d d' h h' => by rw [h] at h'; cases h'; exact Ref.refl _⟩
theorem ref_sl {es es' : List Deep} (h : RefL es es') (len : Nat) : Ref (.sl es len) (.sl es' len) := by
  intro w v hd
  rw [deepOk_sl] at hd ⊢
  rcases hd with ⟨h1, h2, h3⟩ | ⟨b, o, c, rfl, hc⟩
  · subst h2
    exact .inl ⟨h1, List.eq_nil_of_length_eq_zero (by rw [← h.1]; rfl), h3⟩
  · refine .inr ⟨b, o, c, rfl, fun i hi => ?_⟩
    have hi' : i < es.length := by rw [h.1]; exact hi
    obtain ⟨g1, g2, u, g3, g4⟩ := hc i hi'
    exact ⟨g1, g2, u, g3, h.2 i _ _ (List.getElem?_eq_getElem hi') (List.getElem?_eq_getElem hi) w u g4⟩
theorem refL_rows {es : List Deep} {s len : Nat} (hs : 0 < s) (hl : es.length = len * s) {f : Nat → List Deep} (hf : ∀ j, j < len → (f j).length = s) (h : ∀ j, j < len → RefL ((es.drop (j * s)).take s) (f j)) : RefL es (rows f len) := by
  refine ⟨by rw [rows_length hf, hl], fun i d d' hd hd' => ?_⟩
  have hi : i < es.length := (List.getElem?_eq_some_iff.1 hd).1
  have hq : i / s < len := Nat.div_lt_of_lt_mul (by rw [Nat.mul_comm, ← hl]; exact hi)
  have hr : i % s < s := Nat.mod_lt _ hs
  have hsum : i / s * s + i % s = i := by rw [Nat.mul_comm]; exact Nat.div_add_mod i s
  refine (h (i / s) hq).2 (i % s) d d' ?_ ?_
  · rw [List.getElem?_take_of_lt hr, List.getElem?_drop, hsum]; exact hd
  · have := rows_get hf hq hr
    rw [hsum] at this
    rw [← this]
    exact hd'
theorem big_of {l : List Rq} (h : ∀ r ∈ l, r.big ∧ r.rng) : rqsBig l ∧ rqsRng l := by
  induction l with
  | nil => exact ⟨by rw [rqsBig]; trivial, by rw [rqsRng]; trivial⟩
  | cons a r ih =>
    have h1 := ih fun x hx => h x (List.mem_cons_of_mem _ hx)
    have h2 := h a (List.mem_cons_self ..)
    rw [rqsBig, rqsRng]
    exact ⟨⟨h2.1, h1.1⟩, h2.2, h1.2⟩
theorem fit39 (hRR : R ≤ 1125899906842624) : ∀ (N n : Nat) (ds : List Deep), n < N → FitD Tryz.prog R n 39 ds → ∃ r : Rq, RefL ds r.d ∧ r.big ∧ r.rng
  | 0, n, ds, h, _ => absurd h (Nat.not_lt_zero _)
  | N + 1, n, ds, hN, hf => by
    obtain ⟨m, rfl, hl, hfs⟩ := fit_field Tryz.underlying39 hf
    rw [c39'] at hl
    obtain ⟨a0, a1, a2, a3, a4, a5, a6, a7, a8, a9, a10, rfl⟩ := len11 hl
    obtain ⟨k, e0, _⟩ := fitInt Tryz.underlying31 (fit_part hfs (i := 0) rfl (u := 31) rfl c31')
    obtain ⟨pa, e1, hpa⟩ := fitStr Tryz.underlying9 (fit_part hfs (i := 1) rfl (u := 9) rfl c9')
    obtain ⟨d2, bs, e2, r2, hbs, hby⟩ := fit34 (fit_part hfs (i := 2) rfl (u := 34) rfl c34')
    obtain ⟨d3, es, e3, r3, hes⟩ := fit35 (fit_part hfs (i := 3) rfl (u := 35) rfl c35')
    obtain ⟨ver, e4, _⟩ := fitInt Tryz.underlying21 (fit_part hfs (i := 4) rfl (u := 21) rfl c21')
    obtain ⟨eph, e5⟩ := fitBool Tryz.underlying4 (fit_part hfs (i := 5) rfl (u := 4) rfl c4')
    obtain ⟨sq, e6⟩ := fitBool Tryz.underlying4 (fit_part hfs (i := 6) rfl (u := 4) rfl c4')
    obtain ⟨ses, e7, _⟩ := fitInt Tryz.underlying2 (fit_part hfs (i := 7) rfl (u := 2) rfl c2')
    obtain ⟨tmo, e8, _⟩ := fitInt Tryz.underlying21 (fit_part hfs (i := 8) rfl (u := 21) rfl c21')
    obtain ⟨d9, who, e9, r9, hwho⟩ := fit36 (fit_part hfs (i := 9) rfl (u := 36) rfl c36')
    obtain ⟨d10, m', os, len, hm', e10, r10, hol, hoR, hoe⟩ := fitSlice Tryz.underlying37 b39' (fit_part hfs (i := 10) rfl (u := 37) rfl c37')
    rw [c39'] at hol hoe
    obtain ⟨ops, hops, ho⟩ := choose_list rq0 len (Q := fun j (r : Rq) => RefL ((os.drop (j * 11)).take 11) r.d ∧ r.big ∧ r.rng) fun j hj => fit39 hRR N m' _ (by omega) (hoe j hj)
    have hrows : RefL os (rqsD ops) := by
      rw [rqsD_rows, hops]
      exact refL_rows (s := 11) (by decide) hol (fun _ _ => Rq.d_len _) fun j hj => (ho j hj).1
    have hall := big_of (l := ops) fun r hr => by
      obtain ⟨j, hj, rfl⟩ := List.getElem_of_mem hr
      have := (ho j (by omega)).2
      rwa [List.getD_eq_getElem?_getD, List.getElem?_eq_getElem hj] at this
    simp at e0 e1 e2 e3 e4 e5 e6 e7 e8 e9 e10
    subst e0; subst e1; subst e2; subst e3; subst e4; subst e5; subst e6; subst e7; subst e8; subst e9; subst e10
    refine ⟨.mk ⟨k, pa, bs, es, ver, eph, sq, ses, tmo, who⟩ ops, ?_, ?_, ?_⟩
    · rw [Rq.d, hops]
      exact refL_cons (.refl _) (refL_cons (.refl _) (refL_cons r2 (refL_cons r3 (refL_cons (.refl _) (refL_cons (.refl _) (refL_cons (.refl _) (refL_cons (.refl _) (refL_cons (.refl _) (refL_cons r9 (refL_cons (r10.trans (ref_sl hrows len)) (refL_refl [])))))))))))
    · rw [Rq.big]
      exact ⟨⟨Nat.le_trans hpa hRR, Nat.le_trans hbs hRR, Nat.le_trans hes hRR, Nat.le_trans hwho hRR⟩, by rw [hops]; exact Nat.le_trans hoR hRR, hall.1⟩
    · rw [Rq.rng]
      exact ⟨hby, hall.2⟩
theorem fit30 {ds : List Deep} (hf : FitD Tryz.prog R n 30 ds) : ∃ a b, ds = [.val (.int .u32 a), .val (.int .u32 b)] := by
  obtain ⟨m, rfl, hl, hfs⟩ := fit_field Tryz.underlying30 hf
  rw [c30'] at hl
  obtain ⟨x, y, rfl⟩ := len2 hl
  obtain ⟨a, ha, _⟩ := fitInt Tryz.underlying28 (fit_part hfs (i := 0) rfl (u := 28) rfl c28')
  obtain ⟨b, hb, _⟩ := fitInt Tryz.underlying28 (fit_part hfs (i := 1) rfl (u := 28) rfl c28')
  simp at ha hb
  subst ha; subst hb
  exact ⟨a, b, rfl⟩
theorem fit33 {ds : List Deep} (hf : FitD Tryz.prog R n 33 ds) : ∃ a b c, ds = [.val (.int .i8 a), .val (.int .u32 b), .val (.int .i64 c)] := by
  obtain ⟨m, rfl, hl, hfs⟩ := fit_field Tryz.underlying33 hf
  rw [c33'] at hl
  obtain ⟨x, y, z, rfl⟩ := len3 hl
  obtain ⟨a, ha, _⟩ := fitInt Tryz.underlying31 (fit_part hfs (i := 0) rfl (u := 31) rfl c31')
  obtain ⟨b, hb, _⟩ := fitInt Tryz.underlying28 (fit_part hfs (i := 1) rfl (u := 28) rfl c28')
  obtain ⟨c, hc, _⟩ := fitInt Tryz.underlying2 (fit_part hfs (i := 2) rfl (u := 2) rfl c2')
  simp at ha hb hc
  subst ha; subst hb; subst hc
  exact ⟨a, b, c, rfl⟩
theorem fit41 (hRR : R ≤ 1125899906842624) {ds : List Deep} (hf : FitD Tryz.prog R n 41 ds) : ∃ t : Tx, RefL ds t.d ∧ t.r.big ∧ t.r.rng := by
  obtain ⟨m, rfl, hl, hfs⟩ := fit_field Tryz.underlying41 hf
  rw [c41'] at hl
  obtain ⟨a0, a1, a2, a3, a4, a5, a6, a7, a8, a9, a10, a11, a12, a13, a14, a15, rfl⟩ := len16 hl
  obtain ⟨z0, z1, e0⟩ := fit30 (fit_part hfs (i := 0) rfl (u := 30) rfl c30')
  obtain ⟨f0, f1, f2, e1⟩ := fit33 (fit_part hfs (i := 1) rfl (u := 33) rfl c33')
  obtain ⟨r, hr, hb, hg⟩ := fit39 hRR _ m _ (Nat.lt_succ_self _) (fit_part hfs (i := 2) rfl (u := 39) rfl c39')
  simp at e0 e1
  obtain ⟨rfl, rfl⟩ := e0
  obtain ⟨rfl, rfl, rfl⟩ := e1
  refine ⟨⟨z0, z1, f0, f1, f2, r⟩, ?_, hb, hg⟩
  rw [Tx.d_eq]
  exact refL_cons (.refl _) (refL_cons (.refl _) (refL_cons (.refl _) (refL_cons (.refl _) (refL_cons (.refl _) hr))))
theorem fit22 (hRR : R ≤ 1125899906842624) {ds : List Deep} (hf : FitD Tryz.prog R n 22 ds) : ∃ d es l, ds = [d] ∧ Ref d (.sl es l.length) ∧ RefL es (txsD l) ∧ TxsOk l := by
  obtain ⟨d, m, es, len, _, rfl, hr, hl, hR, he⟩ := fitSlice Tryz.underlying22 b41' hf
  rw [c41'] at hl he
  obtain ⟨al, hal, ha⟩ := choose_list tx0 len (Q := fun j (t : Tx) => RefL ((es.drop (j * 16)).take 16) t.d ∧ t.r.big ∧ t.r.rng) fun j hj => fit41 hRR (he j hj)
  have hm : ∀ a ∈ al, a.r.big ∧ a.r.rng := fun a hm => by
    obtain ⟨j, hj, rfl⟩ := List.getElem_of_mem hm
    have := (ha j (by omega)).2
    rwa [List.getD_eq_getElem?_getD, List.getElem?_eq_getElem hj] at this
  refine ⟨d, es, al, rfl, by rw [hal]; exact hr, ?_, by omega, fun t ht => (hm t ht).1, fun t ht => (hm t ht).2⟩
  rw [txsD, hal]
  exact refL_rows (s := 16) (by decide) hl (fun _ _ => Tx.d_len _) fun j hj => (ha j hj).1
end
theorem txsD_len (l : List Tx) : (txsD l).length = l.length * 16 := rows_length (s := 16) fun _ _ => Tx.d_len _
theorem word22 {w : World} {d : Deep} {v : Value} {es : List Deep} {l : List Tx} (hr : Ref d (.sl es l.length)) (hl : RefL es (txsD l)) (h : DeepOk (fun _ => True) w d v) :
    wordF { loc := fun _ => (0, 0), ext := fun _ => 0, fz := fun b => b < w.heap.size, wb := w } v (Wd.d (txsD l) l.length) := by
  have hm : ∀ (d : Deep) (v : Value), DeepOk (fun _ => True) w d v → DeepOk (fun b => b < w.heap.size) w d v := fun d v h => DeepOk.mono (fun b hb _ => ⟨hb, hb, rfl⟩) d v h
  have h1 := hr w v h
  rw [deepOk_sl] at h1
  rcases h1 with ⟨h1, h2, base, c, rfl⟩ | ⟨b, o, c, rfl, hc⟩
  · refine ⟨base, c, by simp [Wd.len, h1], (0, 0), .inl h1, fun i hi => ?_⟩
    rw [txsD_len, h1] at hi
    exact absurd hi (by omega)
  · refine ⟨_, c, rfl, (b, o), .inr rfl, fun i hi => ?_⟩
    have hi' : i < es.length := by rw [hl.1]; exact hi
    obtain ⟨g1, _, u, g3, g4⟩ := hc i hi'
    exact ⟨g1, g1, u, g3, hm _ _ (hl.2 i es[i] (txsD l)[i] (List.getElem?_eq_getElem hi') (List.getElem?_eq_getElem hi) w u g4)⟩
theorem callsW {G : Prot → World → Prop} {P : Program} {f : Nat} {c : ConW} {w : World} (hG : G Prot.all w) (hc : ConWG G P f c) (hv : Pure (c.v fun n => n)) (U : Nat → Value) {as' : Array Value}
    (hU : ∀ (i : Nat) (h : i < c.ws.length), wordF { loc := fun _ => (0, 0), ext := fun _ => 0, fz := fun b => b < w.heap.size, wb := w } (U i) c.ws[i])
    (ha : ∀ ι : Ren, (∀ i, i < c.ws.length → conc ι (.chan (some (2 * i + 1))) = U i) → ((c.args fun i => .chan (some (2 * i + 1))).map (conc ι)).toArray = as') :
    Calls P f as' w fun e w' => e = .returned (c.v fun n => n) ∧ RowKit.Below w.heap.size w w' := by
  obtain ⟨μ1, hadd, hn1⟩ := addW_lim c.ws (μ := μ0) (by have := hc.lim; simpa [μ0] using this)
  obtain ⟨ι1, hx1, hS1, hn, hold, hobj⟩ := addW_ok c.ws (U := U) (sim0_in w) hadd hU
  obtain ⟨μL', hL, _, _⟩ := hc.run
  have h0 : μ0.next = 0 := rfl
  simp only [h0, Nat.zero_add] at hn hobj
  have hgetL : ∀ n o, (mkHp (2 * c.ws.length) (wordsOs c.ws 0 fun n => n)).get n = some o → ∃ i, ∃ (h : i < c.ws.length), (n = 2 * i ∧ o = c.ws[i].obj) ∨ (n = 2 * i + 1 ∧ o = .word c.ws[i].len (2 * i)) := by
    intro n o hg
    simp only [Hp.get, mkHp, mkT_get _ n (wordsOs_small hc.lim)] at hg
    obtain ⟨i, hi, h | h⟩ := wordsOs_mem (look_mem _ n o hg)
    · simp only [Nat.zero_add, Prod.mk.injEq] at h; exact ⟨i, hi, .inl h⟩
    · simp only [Nat.zero_add, Prod.mk.injEq] at h; exact ⟨i, hi, .inr h⟩
  have hk : Keeps (fun n => n) μ1 (mkHp (2 * c.ws.length) (wordsOs c.ws 0 fun n => n)) := by
    refine ⟨fun n o hg => ?_, fun n o hg => ?_, fun n o hg => ?_, fun n m o o' hg hg' _ _ hne => hne, hc.lim⟩
    · obtain ⟨i, hi, ⟨rfl, _⟩ | ⟨rfl, _⟩⟩ := hgetL n o hg <;> simp only [mkHp] <;> omega
    · rw [upO_id]
      obtain ⟨i, hi, ⟨rfl, rfl⟩ | ⟨rfl, rfl⟩⟩ := hgetL n o hg
      · exact (hobj i hi).1
      · exact (hobj i hi).2.1
    · obtain ⟨i, hi, ⟨rfl, rfl⟩ | ⟨rfl, rfl⟩⟩ := hgetL n o hg
      · cases c.ws[i] <;> trivial
      · simp only [BdO, mkHp]; omega
  have hSL := hS1.keeps hk
  have key := hL Prot.all w hG (ι1.via fun n => n) w hSL
  rw [ha (ι1.via fun n => n) (fun i hi => (hobj i hi).2.2)] at key
  refine key.mono ?_
  rintro e w' ⟨ι', _, _, hS', he⟩
  refine ⟨?_, hS'.below⟩
  cases e with
  | returned v' => obtain ⟨h1, _⟩ := he; rw [h1, (hv ι').1]
  | _ => exact he.elim
theorem walk {w : World} (hG : TabZ Prot.all w) {R n m : Nat} (hRR : R ≤ 1125899906842624) {v1 v2 : Value} {d1 d2 : List Deep} (f1 : FitD Tryz.prog R n 22 d1) (f2 : FitD Tryz.prog R m 22 d2) (k1 : Hold w d1 [v1]) (k2 : Hold w d2 [v2]) :
    Calls Tryz.prog 3 #[v1, v2] w fun e w' => e = .returned (.bool true) ∧ Below w.heap.size w w' := by
  obtain ⟨x1, es1, l1, rfl, r1, s1, b1⟩ := fit22 hRR f1
  obtain ⟨x2, es2, l2, rfl, r2, s2, b2⟩ := fit22 hRR f2
  have hc := con3 b1 b2
  refine callsW (c := kn3 l1 l2) hG hc (pure_bool _) (fun i => match i with
    | 0 => v1
    | _ => v2) ?_ ?_
  · intro i hi
    match i, hi with
    | 0, _ => exact word22 r1 s1 (hold_at k1 (i := 0) rfl rfl)
    | 1, _ => exact word22 r2 s2 (hold_at k2 (i := 0) rfl rfl)
    | i + 2, hi => exact absurd hi (by simp [kn3])
  · intro ι' hι
    have e0 := hι 0 (by simp [kn3])
    have e1 := hι 1 (by simp [kn3])
    simp only [Nat.mul_zero, Nat.zero_add, Nat.mul_one] at e0 e1
    simp [kn3, e0, e1]
end Go.Abs
end
