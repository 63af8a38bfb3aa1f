/-
 The closed part: lives() is true.
-/

import Derived.Test.YthopfmokkpoabaaGreatDoorDnE
import Derived.Laws.StandIn
import Derived.Laws.Externs
set_option linter.unusedVariables false
set_option linter.unusedSimpArgs false
set_option linter.unusedSectionVars false
namespace Go.Abs
open Go.Proofs
set_option linter.unusedVariables false
def ixb : List Value → Hp → Option Value
 | [.string s,.int .u8 c],_ => some (.int .i64 (firstIdx s c.toNat.toUInt8))
 | _,_ => none
def extX : FuncId → Option (List Value → Hp → Option Value):=fun f => bif Nat.beq f 234 then some ixb else none
noncomputable def Ss : Plain:=waysOn Tryz.prog E9 extX 5 100000 100000 nodeP [56,66]
noncomputable def Sc : Plain:=waysOn Tryz.prog E9 extX 5 100000 100000 Ss [78]
set_option maxRecDepth 100000 in
theorem lives_run : answer (callN Tryz.prog E9 Sc extX 6 100000 11 [] (μTabs 9 tabs9)) = some (.bool true):=by kernel_rfl
theorem ext_ok {P : Program} {i : Nat} {fn : Func} (hf : P.funcs[i]? = some fn) (hname : (fn.name == "runtime.NumGoroutine") = false) (hb : fn.body.isNone = true) (hn : Extern.findNext fn = none) (he : Extern.find fn = some Extern.BytealgIndexByte.indexByte)
  {pr : Prot} {w0 : World} {ng : Nat} : ExtOk P pr w0 ng fun f => bif Nat.beq f i then some ixb else none:=by
 intro f g hg args μ v h ι w hS hbd
 dsimp only at hg
 cases hc : Nat.beq f i with
 | false => rw [hc] at hg;cases hg
 | true =>
  rw [hc,cond_true,Option.some.injEq] at hg
  subst hg
  have:=Nat.eq_of_beq_eq_true hc
  subst this
  unfold ixb at h
  split at h
  ·rename_i s c
   simp only [Option.some.injEq] at h
   subst h
   refine ⟨?_,by simp⟩
   rw [show ([Value.string s,Value.int .u8 c].map (conc ι)).toArray = #[.string s,.int .u8 c] by simp,run_callFunc_indexByte hf hname hb hn he,run_indexByte_string]
   simp
  ·cases h
theorem extX_ok (pr : Prot) (w0 : World) : ExtOk Tryz.prog pr w0 E9.ng extX:=by
 obtain ⟨fn,hf⟩ : ∃ fn,Tryz.prog.funcs[234]? = some fn:=Option.isSome_iff_exists.1 (by kernel_rfl)
 have e : fn = (Tryz.prog.funcs[234]?).getD default:=by rw [hf];rfl
 exact ext_ok hf (by rw [e];kernel_rfl) (by rw [e];kernel_rfl) (by rw [e];kernel_rfl) (by rw [e];kernel_rfl)
theorem Ss_ok (pr : Prot) (w0 : World) : SumsOk Tryz.prog pr w0 E9.ng Ss:=waysOn_ok env9 mixT nodeP_ok extX_ok 5 100000 100000 _ pr w0
theorem Sc_ok (pr : Prot) (w0 : World) : SumsOk Tryz.prog pr w0 E9.ng Sc:=waysOn_ok env9 mixT Ss_ok extX_ok 5 100000 100000 _ pr w0
theorem lives_calls {w : World} (h : TabsOk tabs9 w) : Calls Tryz.prog 11 #[] w fun e w' => e = .returned (.bool true)∧RowKit.Below w.heap.size w w' :=
 calls_of_closed env9 mixT Sc_ok extX_ok lives_run (fun x hx => by cases hx) (pure_bool _) (sim_tabs (N:=9) h (by simp [tabs9]) (by decide) fun _ => none)
/-- What the law's call asks of the world. -/
def TabZ (pr : Prot) (w : World) : Prop:=Tab pr w∧TabsOk tabs9 w∧pr.p 0
theorem tabz_stands : StandsL TabZ:=by
 intro pr w0 pr' w ⟨hG,hT,h0⟩ hsz hk
 refine ⟨tab_stands pr w0 pr' w hG hsz hk,?_,?_⟩
 ·intro t ht i u hu
  obtain ⟨h1,h2⟩:=hT t ht i u hu
  have hp : pr.p t.g:=by
   simp only [tabs9,List.mem_cons,List.not_mem_nil,or_false] at ht
   rcases ht with rfl | rfl
   ·exact h0
   ·exact hG.2
  refine ⟨Nat.lt_of_lt_of_le h1 hsz,?_⟩
  rw [← h2]
  simp only [World.cell?,(hk t.g h1 hp).2]
 ·exact (hk 0 (Nat.lt_of_le_of_lt (Nat.zero_le 1) hG.lt) h0).1
theorem ConWG.toZ {P : Program} {f : FuncId} {c : ConW} (h : ConWG Tab P f c) : ConWG TabZ P f c :=
 ⟨h.lim,h.bd,h.ap,h.uv,h.un,by obtain ⟨μ,h1,h2⟩:=h.run;exact ⟨μ,fun pr w0 hG ι w hS => h1 pr w0 hG.1 ι w hS,h2⟩⟩
def livesQ : List Value → Hp → Option (Value × Prop):=fun args _ => match args with
 | [] => some (.bool true,True)
 | _ => none
theorem lives_ok {pr : Prot} {w0 : World} (hG : TabZ pr w0) : SumOk Tryz.prog pr w0 0 11 (pureS livesQ):=by
 intro args μ e μ' p hg hp ι w hS hbd
 unfold pureS at hg
 split at hg
 case h_2 => cases hg
 rename_i v p' hq
 unfold livesQ at hq
 split at hq
 ·simp only [Option.some.injEq,Prod.mk.injEq] at hg hq
  obtain ⟨rfl,rfl⟩:=hq
  obtain ⟨rfl,rfl,rfl⟩:=hg
  have hT:=tabz_stands.stands _ _ _ _ _ _ hG hS
  exact calls_stays hS (pure_bool _) (lives_calls hT.2.1)
 ·cases hq
end Go.Abs
