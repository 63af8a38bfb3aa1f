/-
  The abstract machine: a computable interpreter over abstract heaps, and that it is right of the model's runs: part D.
-/
import Derived.Test.YthopfmokkpoabaaGreatDoorBmC
import Derived.RangeFuncIn
import Derived.RangeFuncRecord
import Derived.RangeFuncNested
set_option linter.unusedVariables false
set_option linter.unusedSimpArgs false
set_option linter.unusedSectionVars false
section
namespace Go.Abs
def isFlo (E : Env) (o : Oper) : Bool :=
 match o.op,o.guard with
 | .alloc t,none => match zeroA E t with
  | some z => z.cells.toList.all atom
  | none => false
 | _,_ => false
def pairF (E : Env) (ops : Array Oper) (b : List Nat) (oi : Oper) (i : Nat) (oj : Oper) (j : Nat) : Bool :=
 (Nat.beq i j || (!dstEq oi.dst oj.dst && (Nat.ble j i || !(loud E oi.op && loud E oj.op) || isFlo E oj || (b.getD j 0).testBit i))) &&
 (match oi.dst with
  | some d => !((looks ops oj).any fun t => Nat.beq t d) || (!Nat.beq i j && ((b.getD j 0).testBit i || (b.getD i 0).testBit j))
  | none => true)
def pairsF (E : Env) (ops : Array Oper) (b : List Nat) (oj : Oper) (j : Nat) : List Oper → Nat → Bool
 | [],_ => true
 | oi :: r,i => pairF E ops b oi i oj j && pairsF E ops b oj j r (i + 1)
def openFromF (E : Env) (ops : Array Oper) (b : List Nat) : List Oper → Nat → Bool
 | [],_ => true
 | oj :: r,j => (oj.after.toList.all fun e => !Region.binds .any e || Nat.blt e.on j) && pairsF E ops b oj j ops.toList 0 && openFromF E ops b r (j + 1)
def preB : List Bool → (Nat → Bool) → Nat → Nat
 | [],_,_ => 0
 | b :: bs,p,i => bif b then (bif p i then 1 + preB bs p (i + 1) else 0) else preB bs p (i + 1)
def rises : List Hp → Bool
 | a :: b :: r => Nat.ble a.next b.next && rises (b :: r)
 | _ => true
def floOk (E : Env) (bits : Nat) (lo : Nat) : List Oper → List Step → Nat → Bool
 | o :: os,s :: ss,i => (!(isFlo E o && bits.testBit i) || Nat.blt s.k lo) && floOk E bits lo os ss (i + 1)
 | _,_,_ => true
def quietAtF (P : Program) (E : Env) (b : List Nat) (ls : List Bool) (heaps : List Hp) (all : List Oper) (steps : List Step) (o : Oper) (s : Step) (j : Nat) : Bool :=
 loud E o.op || !s.on ||
  (let lo:=preB ls (fun i => (b.getD j 0).testBit i) 0
  let hi:=countB ls (fun i => !(b.getD i 0).testBit j) 0
  floOk E (b.getD j 0) lo all steps 0 && ((Nat.beq lo s.k && Nat.beq hi s.k) || heapsOk P E o s lo hi heaps 0))
def quietOkF (P : Program) (E : Env) (b : List Nat) (ls : List Bool) (heaps : List Hp) (all : List Oper) (steps : List Step) : List Oper → List Step → Nat → Bool
 | o :: os,s :: ss,j => quietAtF P E b ls heaps all steps o s j && quietOkF P E b ls heaps all steps os ss (j + 1)
 | _,_,_ => true
def drawnF (P : Program) (E : Env) (callF : CallF) (ops : Array Oper) (fr : Fr) (μ : Hp) : Option (Fr × Hp) :=
 let b:=befA ops.toList []
 bif openFromF E ops b ops.toList 0 then
  match stepsA P E callF ops ops.toList fr μ 0 with
  | some (steps,heaps,fr') => bif rises heaps && quietOkF P E b (loudOn E ops steps) heaps ops.toList steps ops.toList steps 0 then (heaps.getLast?.map fun μ' => (fr',μ')) else none
  | none => none
 else none
structure OpenF (E : Env) (ops : Array Oper) : Prop where
 edge : ∀ (j : Nat) (o : Oper),ops[j]? = some o → ∀ e ∈ o.after,Region.binds .any e = true → e.on < j
 dst : ∀ (i j : Nat) (oi oj : Oper) (d : Nat),ops[i]? = some oi → ops[j]? = some oj → oi.dst = some d → oj.dst = some d → i = j
 ord : ∀ (i j : Nat) (oi oj : Oper),ops[i]? = some oi → ops[j]? = some oj → loud E oi.op = true → loud E oj.op = true → isFlo E oj = false → i < j → ((befA ops.toList []).getD j 0).testBit i = true
 look : ∀ (i j : Nat) (oi oj : Oper) (d : Nat),ops[i]? = some oi → ops[j]? = some oj → oi.dst = some d → d ∈ oj.looksAt ops → i ≠ j∧(((befA ops.toList []).getD j 0).testBit i = true ∨ ((befA ops.toList []).getD i 0).testBit j = true)
theorem openFromF_spec {E : Env} {ops : Array Oper} {b : List Nat} : ∀ (l : List Oper) (k : Nat),openFromF E ops b l k = true → ∀ j o,l[j]? = some o →
  (∀ e ∈ o.after,Region.binds .any e = true → e.on < k + j)∧pairsF E ops b o (k + j) ops.toList 0 = true
 | [],k,h,j,o,hj => by simp at hj
 | o' :: l,k,h,j,o,hj => by
  simp only [openFromF,Bool.and_eq_true] at h
  cases j with
  | zero =>
   simp at hj;subst hj
   refine ⟨fun e he hb => ?_,h.1.2⟩
   have:=List.all_eq_true.1 h.1.1 e (Array.mem_toList_iff.2 he)
   simp only [hb,Bool.not_true,Bool.false_or,Nat.blt_eq] at this
   exact this
  | succ j =>
   have:=openFromF_spec l (k + 1) h.2 j o (by simpa using hj)
   rw [show k + (j + 1) = k + 1 + j by omega]
   exact this
theorem pairsF_spec {E : Env} {ops : Array Oper} {b : List Nat} {oj : Oper} {j : Nat} : ∀ (l : List Oper) (k : Nat),pairsF E ops b oj j l k = true → ∀ i o,l[i]? = some o → pairF E ops b o (k + i) oj j = true
 | [],k,h,i,o,hi => by simp at hi
 | o' :: l,k,h,i,o,hi => by
  simp only [pairsF,Bool.and_eq_true] at h
  cases i with
  | zero => simp at hi;subst hi;exact h.1
  | succ i =>
   rw [show k + (i + 1) = k + 1 + i by omega]
   exact pairsF_spec l (k + 1) h.2 i o (by simpa using hi)
theorem openF_spec {E : Env} {ops : Array Oper} (h : openFromF E ops (befA ops.toList []) ops.toList 0 = true) : OpenF E ops:=by
 have key : ∀ (i j : Nat) (oi oj : Oper),ops[i]? = some oi → ops[j]? = some oj → pairF E ops (befA ops.toList []) oi i oj j = true:=by
  intro i j oi oj hi hj
  have h1:=(openFromF_spec _ _ h j oj (by simpa using hj)).2
  have h2:=pairsF_spec _ _ h1 i oi (by simpa using hi)
  simpa using h2
 refine ⟨fun j o ho e he hb => ?_,fun i j oi oj d hi hj h1 h2 => ?_,fun i j oi oj hi hj h1 h2 hnf hlt => ?_,fun i j oi oj d hi hj h1 h2 => ?_⟩
 ·simpa using (openFromF_spec _ _ h j o (by simpa using ho)).1 e he hb
 ·have:=key i j oi oj hi hj
  unfold pairF at this
  simp only [Bool.and_eq_true,Bool.or_eq_true] at this
  rcases this.1 with h3 | h3
  ·exact beq_sound h3
  ·have:=h3.1
   simp only [dstEq,h1,h2,Nat.beq_refl,Bool.not_true] at this
   cases this
 ·have:=key i j oi oj hi hj
  unfold pairF at this
  simp only [Bool.and_eq_true,Bool.or_eq_true] at this
  rcases this.1 with h3 | h3
  ·have:=beq_sound h3;omega
  ·rcases h3.2 with ((h4 | h4) | h4) | h4
   ·have:=Nat.le_of_ble_eq_true h4;omega
   ·simp [h1,h2] at h4
   ·rw [hnf] at h4;cases h4
   ·exact h4
 ·have:=key i j oi oj hi hj
  unfold pairF at this
  simp only [Bool.and_eq_true,h1,Bool.or_eq_true] at this
  rcases this.2 with h3 | h3
  ·exfalso
   have hm : ((looks ops oj).any fun t => Nat.beq t d) = true:=List.any_eq_true.2 ⟨d,h2,Nat.beq_refl d⟩
   rw [hm] at h3
   cases h3
  ·refine ⟨fun e => ?_,h3.2⟩
   have:=h3.1
   rw [e,Nat.beq_refl] at this
   cases this
theorem preB_le (ls : List Bool) (p : Nat → Bool) : ∀ i,preB ls p i ≤ countB ls p i:=by
 induction ls with
 | nil => intro i;exact Nat.le_refl _
 | cons b bs ih =>
  intro i
  simp only [preB,countB]
  cases b with
  | false => simpa using ih (i + 1)
  | true =>
   cases hp : p i with
   | false => simp
   | true => simp only [hp,cond_true,Bool.and_self];have:=ih (i + 1);omega
theorem preB_mono (ls : List Bool) (p q : Nat → Bool) : ∀ i,(∀ k,ls[k]? = some true → p (i + k) = true → q (i + k) = true) → preB ls p i ≤ preB ls q i:=by
 induction ls with
 | nil => intro i _;exact Nat.le_refl _
 | cons b bs ih =>
  intro i h
  have ih':=ih (i + 1) fun k hk hp => by
   have:=h (k + 1) (by simpa using hk)
   rw [show i + (k + 1) = i + 1 + k by omega] at this
   exact this hp
  simp only [preB]
  cases b with
  | false => simpa using ih'
  | true =>
   cases hp : p i with
   | false => simp
   | true =>
    have hq : q i = true:=by have:=h 0 (by simp);simpa using this (by simpa using hp)
    simp only [hq,cond_true];omega
theorem preB_at (ls : List Bool) (p : Nat → Bool) : ∀ (i j : Nat),ls[j]? = some true → p (i + j) = false → (∀ k,k < j → ls[k]? = some true → p (i + k) = true) → preB ls p i = countB ls (fun k => decide (k < i + j)) i:=by
 induction ls with
 | nil => intro i j h;simp at h
 | cons b bs ih =>
  intro i j hj hp hall
  simp only [preB,countB]
  cases j with
  | zero =>
   simp at hj;subst hj
   simp only [Nat.add_zero] at hp ⊢
   rw [hp]
   have hz : countB bs (fun k => decide (k < i)) (i + 1) = 0:=countB_none _ _ _ fun k => by simp;omega
   simp [hz]
  | succ j =>
   have ih':=ih (i + 1) j (by simpa using hj) (by rw [show i + 1 + j = i + (j + 1) by omega];exact hp) (fun k hk hl => by
    have:=hall (k + 1) (by omega) (by simpa using hl)
    rw [show i + 1 + k = i + (k + 1) by omega];exact this)
   rw [show i + 1 + j = i + (j + 1) by omega] at ih'
   rw [ih']
   cases b with
   | false => simp
   | true =>
    have h0:=hall 0 (by omega) (by simp)
    simp only [Nat.add_zero] at h0
    simp [h0]
theorem preB_all (ls : List Bool) (p : Nat → Bool) : ∀ i,(∀ k,ls[k]? = some true → p (i + k) = true) → preB ls p i = countB ls (fun _ => true) i:=by
 induction ls with
 | nil => intro i _;rfl
 | cons b bs ih =>
  intro i h
  have ih':=ih (i + 1) fun k hk => by
   have:=h (k + 1) (by simpa using hk)
   rw [show i + 1 + k = i + (k + 1) by omega];exact this
  simp only [preB,countB,ih']
  cases b with
  | false => simp
  | true => have:=h 0 (by simp);simp only [Nat.add_zero] at this;simp [this]
theorem preB_in (ls : List Bool) (p : Nat → Bool) : ∀ (i j : Nat),ls[j]? = some true → countB ls (fun k => decide (k < i + j)) i < preB ls p i → p (i + j) = true:=by
 induction ls with
 | nil => intro i j h;simp at h
 | cons b bs ih =>
  intro i j hj hlt
  simp only [preB,countB] at hlt
  cases j with
  | zero =>
   simp at hj;subst hj
   cases hp : p i with
   | true => rfl
   | false => simp [hp] at hlt
  | succ j =>
   rw [show i + (j + 1) = i + 1 + j by omega] at hlt ⊢
   refine ih (i + 1) j (by simpa using hj) ?_
   cases b with
   | false => simpa using hlt
   | true =>
    cases hp : p i with
    | false => simp [hp] at hlt
    | true =>
     rw [hp] at hlt
     have : decide (i < i + 1 + j) = true:=by simp;omega
     simp only [this,cond_true,Bool.and_self] at hlt
     omega
theorem rises_spec : ∀ {hs : List Hp},rises hs = true → ∀ (i j : Nat) (a b : Hp),i ≤ j → hs[i]? = some a → hs[j]? = some b → a.next ≤ b.next
 | [],_,i,j,a,b,_,ha,_ => by simp at ha
 | [x],_,i,j,a,b,hij,ha,hb => by
  cases i with
  | zero => cases j with
   | zero => rw [ha] at hb;cases hb;exact Nat.le_refl _
   | succ j => simp at hb
  | succ i => simp at ha
 | x :: y :: r,h,i,j,a,b,hij,ha,hb => by
  simp only [rises,Bool.and_eq_true] at h
  have h1:=Nat.le_of_ble_eq_true h.1
  cases i with
  | succ i =>
   cases j with
   | zero => omega
   | succ j => exact rises_spec h.2 i j a b (by omega) (by simpa using ha) (by simpa using hb)
  | zero =>
   simp at ha;subst ha
   cases j with
   | zero => simp at hb;subst hb;exact Nat.le_refl _
   | succ j => exact Nat.le_trans h1 (rises_spec h.2 0 j y b (by omega) (by simp) (by simpa using hb))
theorem floOk_spec {E : Env} {bits lo : Nat} : ∀ (l : List Oper) (ss : List Step) (k : Nat),floOk E bits lo l ss k = true → ∀ i o s,l[i]? = some o → ss[i]? = some s → isFlo E o = true → bits.testBit (k + i) = true → s.k < lo
 | [],_,k,h,i,o,s,hi,_ => by simp at hi
 | _ :: _,[],k,h,i,o,s,_,hs => by simp at hs
 | o' :: l,s' :: ss,k,h,i,o,s,hi,hs => by
  simp only [floOk,Bool.and_eq_true,Bool.or_eq_true,Nat.blt_eq] at h
  intro hf hb
  cases i with
  | zero =>
   simp at hi hs;subst hi;subst hs
   rcases h.1 with h1 | h1
   ·simp only [Nat.add_zero] at hb;rw [hf,hb] at h1;cases h1
   ·exact h1
  | succ i =>
   exact floOk_spec l ss (k + 1) h.2 i o s (by simpa using hi) (by simpa using hs) hf (by rw [show k + 1 + i = k + (i + 1) by omega];exact hb)
theorem quietOkF_spec {P : Program} {E : Env} {b : List Nat} {ls : List Bool} {heaps : List Hp} {all : List Oper} {steps : List Step} : ∀ (l : List Oper) (ss : List Step) (k : Nat),quietOkF P E b ls heaps all steps l ss k = true → ∀ j o s,l[j]? = some o → ss[j]? = some s → quietAtF P E b ls heaps all steps o s (k + j) = true
 | [],_,k,h,j,o,s,hj,_ => by simp at hj
 | _ :: _,[],k,h,j,o,s,_,hs => by simp at hs
 | o' :: l,s' :: ss,k,h,j,o,s,hj,hs => by
  simp only [quietOkF,Bool.and_eq_true] at h
  cases j with
  | zero => simp at hj hs;subst hj;subst hs;exact h.1
  | succ j =>
   have:=quietOkF_spec l ss (k + 1) h.2 j o s (by simpa using hj) (by simpa using hs)
   rw [show k + (j + 1) = k + 1 + j by omega]
   exact this
section
variable {P : Program} {E : Env} {pr : Prot} {w0 : World}
theorem Sim.rebase {ng : Nat} {ι : Ren} {μ : Hp} {w : World} (h : Sim pr w0 ng ι μ w) :
  ∃ pr' : Prot,(∀ b,(∀ m o,μ.get m = some o → o.live = true → (ι.loc m).1 ≠ b) → pr'.p b)∧(∀ b,pr'.f b → ι.fz b)∧Sim pr' w ng ι μ w∧∀ ι' μ' w',Sim pr' w ng ι' μ' w' → Sim pr w0 ng ι' μ' w':=by
 have hsub : ∀ b,pr.p b → b < w0.heap.size → ∀ m o,μ.get m = some o → o.live = true → (ι.loc m).1 ≠ b:=by
  intro b hp hb m o hg hlv e
  exact h.free m o hg hlv (by rw [e];exact hb) (by rw [e];exact hp)
 refine ⟨{ p:=fun b => ∀ m o,μ.get m = some o → o.live = true → (ι.loc m).1 ≠ b,f:=ι.fz,tab:=pr.tab },fun b hb => hb,fun b hb => hb,?_,?_⟩
 ·exact ⟨rfl,rfl,rfl,Nat.le_refl _,fun _ _ _ => rfl,h.lt,h.obj,h.blk,fun n o hg hlv _ hp => hp n o hg hlv rfl,h.inj,h.lim,h.glob,h.ro,h.fro,h.ffree,fun _ _ _ hf => hf⟩
 ·intro ι' μ' w' h'
  refine ⟨h'.os.trans h.os,h'.tape.trans h.tape,h'.output.trans h.output,Nat.le_trans h.size h'.size,?_,h'.lt,h'.obj,h'.blk,?_,h'.inj,h'.lim,h'.glob,h'.ro,h'.fro,h'.ffree,?_⟩
  ·intro k hk hp
   exact (h'.prot k (Nat.lt_of_lt_of_le hk h.size) (hsub k hp hk)).trans (h.prot k hk hp)
  ·intro n o hg hlv hlt hp
   exact h'.free n o hg hlv (Nat.lt_of_lt_of_le hlt h.size) (hsub _ hp hlt)
  ·intro b hb hp hf
   exact h.pfz b hb hp (h'.pfz b (Nat.lt_of_lt_of_le hb h.size) (hsub b hp hb) hf)
theorem Sim.ext {ng : Nat} {ι ι' : Ren} {μ : Hp} {w : World} (h : Sim pr w0 ng ι μ w) (hx : Ext μ.next ι ι') (hz : ι'.fz = ι.fz) (hwb : ι'.wb = ι.wb) : Sim pr w0 ng ι' μ w where
 os:=h.os
 tape:=h.tape
 output:=h.output
 size:=h.size
 prot:=h.prot
 lt:=h.lt
 obj n o hg:=(h.obj n o hg).mono hx (Nat.le_refl _) (h.lt n o hg) (fun _ => rfl)
 blk n o hg hl:=by rw [hx.loc n (h.lt n o hg)];exact h.blk n o hg hl
 free n o hg hl:=by rw [hx.loc n (h.lt n o hg)];exact h.free n o hg hl
 inj n m o o' hg hg':=by rw [hx.loc n (h.lt n o hg),hx.loc m (h.lt m o' hg')];exact h.inj n m o o' hg hg'
 lim:=h.lim
 glob g hg:=by obtain ⟨h1,h2⟩:=h.glob g hg;exact ⟨by rw [hx.loc g h2,hx.opq g h2];exact h1,h2⟩
 ro n o hg:=by rw [hx.loc n (h.lt n o hg),hz,hwb];exact h.ro n o hg
 fro:=by rw [hz,hwb];exact h.fro
 ffree n o hg hl:=by rw [hx.loc n (h.lt n o hg),hz];exact h.ffree n o hg hl
 pfz:=by rw [hz];exact h.pfz
structure Early (w0 : World) (ι : Ren) (μ : Hp) (w : World) (n : Nat) (zs : List Value) : Prop where
 blk : (ι.loc n).1 < w.heap.size
 new : w0.heap.size ≤ (ι.loc n).1
 zero : (ι.loc n).2 = 0
 cell : ∀ i v,zs[i]? = some v → w.cell? ⟨(ι.loc n).1,i,none⟩ = some v∧w.frozen? ⟨(ι.loc n).1,i,none⟩ = false
 free : ∀ m o,μ.get m = some o → o.live = true → (ι.loc m).1 ≠ (ι.loc n).1
 nfz : ¬ ι.fz (ι.loc n).1
 ge : μ.next ≤ n
theorem Early.keep {ng : Nat} {ι ι2 : Ren} {μ μ2 : Hp} {w w2 : World} {n : Nat} {zs : List Value} (h : Early w0 ι μ w n zs) {pr' : Prot} (hp : ∀ b,(∀ m o,μ.get m = some o → o.live = true → (ι.loc m).1 ≠ b) → pr'.p b) (hf : ∀ b,pr'.f b → ι.fz b) (h2 : Sim pr' w ng ι2 μ2 w2) (hl : ι2.loc n = ι.loc n) (hge : μ2.next ≤ n) : Early w0 ι2 μ2 w2 n zs:=by
 have hpb:=hp _ h.free
 have hsame:=h2.prot _ h.blk hpb
 refine ⟨by rw [hl];exact Nat.lt_of_lt_of_le h.blk h2.size,by rw [hl];exact h.new,by rw [hl];exact h.zero,fun i v hv => ?_,fun m o hg hlv e => ?_,fun hfz => ?_,hge⟩
 ·rw [hl,World.cell?_of_block (w:=w) hsame,World.frozen?_of_block (w:=w) hsame]
  exact h.cell i v hv
 ·rw [hl] at e
  exact h2.free m o hg hlv (by rw [e];exact h.blk) (by rw [e];exact hpb)
 ·rw [hl] at hfz
  exact h.nfz (hf _ (h2.pfz _ h.blk hpb hfz))
end
end Go.Abs
end
section
namespace Go.Abs
theorem framesF {P : Program} {E : Env} {callF : CallF} {ops : Array Oper} {fr : Fr} {μ : Hp} {steps : List Step} {heaps : List Hp} {fr' : Fr} (hO : OpenF E ops) (hlim : fr.sz < limit)
  (hP : Pass P E callF ops ops.toList fr μ 0 steps heaps fr') : ∀ j,j ≤ ops.size → At ops steps fr (fun i => i < j) (frAt steps fr' j):=by
 intro j
 induction j with
 | zero => intro _;rw [hP.first];exact ⟨rfl,rfl,fun i o s t _ _ _ h => absurd h (by omega),fun _ _ => rfl⟩
 | succ j ih =>
  intro hj
  have ho : ops[j]? = some ops[j]:=Array.getElem?_eq_getElem (by omega)
  have hs : ∃ s,steps[j]? = some s:=⟨_,List.getElem?_eq_getElem (by rw [hP.len];simp;omega)⟩
  obtain ⟨s,hs⟩:=hs
  obtain ⟨h1,h2⟩:=hP.put j ops[j] s (by rw [Array.getElem?_toList];exact ho) hs
  have hA:=ih (by omega)
  rw [← h1] at hA
  exact hA.put hO.dst hlim ho hs h2 fun i => by omega
theorem bef_ltF {E : Env} {ops : Array Oper} (hO : OpenF E ops) : ∀ (j i : Nat),((befA ops.toList []).getD j 0).testBit i = true → i < j:=by
 intro j
 induction j using Nat.strongRecOn with
 | _ j ih =>
  intro i h
  obtain ⟨o,ho,e,he,hb,h⟩:=befA_bit ops h
  have hl:=hO.edge j o ho e he hb
  rcases h with rfl | ⟨hlt,h⟩
  ·exact hl
  ·exact Nat.lt_trans (ih e.on hlt i h) hlt
theorem look_sameF {E : Env} {ops : Array Oper} {steps : List Step} {fr f g : Fr} {L : Nat → Bool} (hO : OpenF E ops) (hlen : steps.length = ops.size) (hcl : Closed ops L) {j : Nat} {oj : Oper} (hj : ops[j]? = some oj) (hun : L j = false)
  (hrd : ∀ o,ops[j]? = some o → ∀ e ∈ o.after,Region.binds .any e = true → L e.on = true) (hf : At ops steps fr (fun i => L i = true) f) (hg : At ops steps fr (fun i => i < j) g) {t : Nat} (ht : t ∈ oj.looksAt ops) :
  f.get t = g.get t∧((∃ i oi s,ops[i]? = some oi∧oi.dst = some t∧steps[i]? = some s∧L i = true∧i < j∧((befA ops.toList []).getD j 0).testBit i = true∧f.get t = s.v) ∨ f.get t = fr.get t):=by
 by_cases hex : ∃ (i : Nat) (oi : Oper),ops[i]? = some oi∧oi.dst = some t
 ·obtain ⟨i,oi,hi,hd⟩:=hex
  obtain ⟨hne,hbit⟩:=hO.look i j oi oj t hi hj hd ht
  have hs : ∃ s,steps[i]? = some s:=⟨_,List.getElem?_eq_getElem (by rw [hlen];exact (Array.getElem?_eq_some_iff.1 hi).1)⟩
  obtain ⟨s,hs⟩:=hs
  rcases hbit with hb | hb
  ·have hL:=bef_listed hcl j i hrd hb
   have hlt:=bef_ltF hO j i hb
   exact ⟨by rw [hf.yes i oi s t hi hs hd hL,hg.yes i oi s t hi hs hd hlt],.inl ⟨i,oi,s,hi,hd,hs,hL,hlt,hb,hf.yes i oi s t hi hs hd hL⟩⟩
  ·have hlt:=bef_ltF hO i j hb
   have hnl : L i = false:=by
    cases hl : L i with
    | false => rfl
    | true => rw [bef_listed hcl i j (hcl i hl) hb] at hun;simp at hun
   have hno : f.get t = fr.get t:=hf.no t fun i' o' hi' hd' => by rw [hO.dst i' i o' oi t hi' hi hd' hd,hnl];simp
   exact ⟨by rw [hno,hg.no t fun i' o' hi' hd' => by have:=hO.dst i' i o' oi t hi' hi hd' hd;omega],.inr hno⟩
 ·have hno : f.get t = fr.get t:=hf.no t fun i o hi hd => absurd ⟨i,o,hi,hd⟩ hex
  exact ⟨by rw [hno,hg.no t fun i o hi hd => absurd ⟨i,o,hi,hd⟩ hex],.inr hno⟩
theorem ready_nilF {E : Env} {ops : Array Oper} {listed : Array Bool} (hO : OpenF E ops) (hsz : listed.size = ops.size) (h : Region.ready .any ops listed = []) : ∀ j,j < ops.size → listed.getD j false = true:=by
 intro j
 induction j using Nat.strongRecOn with
 | _ j ih =>
  intro hj
  cases hl : listed.getD j false with
  | true => rfl
  | false =>
   exfalso
   have ho : ops[j]? = some ops[j]:=Array.getElem?_eq_getElem hj
   have hm : j ∈ Region.ready .any ops listed:=by
    rw [mem_ready]
    refine ⟨by simpa [Array.getD,hsz,hj] using hl,_,ho,fun e he hb => ?_⟩
    have hlt:=hO.edge j _ ho e he hb
    exact ih e.on hlt (by omega)
   rw [h] at hm
   simp at hm
theorem flo_item {P : Program} {E : Env} {o : Oper} (hf : isFlo E o = true) : ∃ t z,o.op = .alloc t∧o.guard = none∧zeroA E t = some z∧z.cells.toList.all atom = true∧loud E o.op = true ∧
  ∀ ev μ,opA P E ev o μ = ofVal (newVarA z μ):=by
 unfold isFlo at hf
 split at hf
 ·rename_i t hop hg
  cases hz : zeroA E t with
  | none => rw [hz] at hf;cases hf
  | some z =>
   rw [hz] at hf
   refine ⟨t,z,hop,hg,hz,hf,by rw [hop];rfl,fun ev μ => ?_⟩
   unfold opA
   simp [hop,Op.operands,hz]
 ·cases hf
section
variable {P : Program} {E : Env} {pr : Prot} {w0 : World} (hE : EnvOk P E)
include hE
theorem flo_run {o : Oper} {t : TypeId} {z : Value} (hop : o.op = .alloc t) (hz : zeroA E t = some z) (hat : z.cells.toList.all atom = true) (ρ : Operand → Value) (w : World) :
  (execOp ρ o).run P w = .ok (.value (.pointer (some ⟨w.heap.size,0,none⟩))) (w.alloc (.cells z.cells t)):=by
 simp only [execOp,hop,Instr.alloc,Sem.run_bind,(hE.run_zero hz w).1,Result.andThen_ok,newVar,newRow,run_newObj,World.alloc_eq,Sem.run_pure]
omit hE in
theorem nth_loud : ∀ (ls : List Bool) (i k : Nat),k < countB ls (fun _ => true) i → ∃ j,ls[j]? = some true∧countB ls (fun n => decide (n < i + j)) i = k
 | [],i,k,h => by simp [countB] at h
 | b :: bs,i,k,h => by
  simp only [countB] at h
  cases b with
  | false =>
   simp only [Bool.false_and,cond_false,Nat.zero_add] at h
   obtain ⟨j,hj,hc⟩:=nth_loud bs (i + 1) k h
   refine ⟨j + 1,by simpa using hj,?_⟩
   rw [show i + (j + 1) = i + 1 + j by omega]
   simpa [countB] using hc
  | true =>
   simp only [Bool.true_and,cond_true] at h
   cases k with
   | zero => exact ⟨0,by simp,by simp only [countB,Nat.add_zero];simp;exact countB_none _ _ _ fun n => by simp;omega⟩
   | succ k =>
    obtain ⟨j,hj,hc⟩:=nth_loud bs (i + 1) k (by omega)
    refine ⟨j + 1,by simpa using hj,?_⟩
    rw [show i + (j + 1) = i + 1 + j by omega]
    have hd : decide (i < i + 1 + j) = true:=by simp;omega
    simp only [countB,hc,hd,Bool.and_self,cond_true]
    omega
omit hE in
theorem preB_stop (ls : List Bool) (p : Nat → Bool) : ∀ (i j : Nat),ls[j]? = some true → countB ls (fun k => decide (k < i + j)) i = preB ls p i → p (i + j) = false:=by
 induction ls with
 | nil => intro i j h;simp at h
 | cons b bs ih =>
  intro i j hj hc
  simp only [preB,countB] at hc
  cases j with
  | zero =>
   simp at hj;subst hj
   cases hp : p i with
   | false => rfl
   | true =>
    rw [hp] at hc
    have : countB bs (fun k => decide (k < i + 0)) (i + 1) = 0:=countB_none _ _ _ fun n => by simp;omega
    rw [this] at hc
    simp at hc
    omega
  | succ j =>
   rw [show i + (j + 1) = i + 1 + j by omega] at hc ⊢
   refine ih (i + 1) j (by simpa using hj) ?_
   have hd : decide (i < i + 1 + j) = true:=by simp;omega
   rw [hd] at hc
   cases b with
   | false => simpa using hc
   | true =>
    cases hp : p i with
    | false => rw [hp] at hc;simp at hc
    | true => rw [hp] at hc;simp only [cond_true,Bool.and_self] at hc;omega
omit hE in
theorem countB_lt (ls : List Bool) : ∀ (i a b : Nat),a < b → ls[a]? = some true → countB ls (fun k => decide (k < i + a)) i < countB ls (fun k => decide (k < i + b)) i:=by
 induction ls with
 | nil => intro i a b _ h;simp at h
 | cons c cs ih =>
  intro i a b hab ha
  simp only [countB]
  cases a with
  | zero =>
   simp at ha;subst ha
   have h1 : countB cs (fun k => decide (k < i + 0)) (i + 1) = 0:=countB_none _ _ _ fun n => by simp;omega
   rw [h1]
   have h2 : decide (i < i + b) = true:=by simp;omega
   rw [h2]
   simp
   omega
  | succ a =>
   cases b with
   | zero => omega
   | succ b =>
    have:=ih (i + 1) a b (by omega) (by simpa using ha)
    rw [show i + 1 + a = i + (a + 1) by omega,show i + 1 + b = i + (b + 1) by omega] at this
    have h1 : decide (i < i + (a + 1)) = true:=by simp
    have h2 : decide (i < i + (b + 1)) = true:=by simp
    rw [h1,h2]
    omega
structure InvF (E : Env) (pr : Prot) (w0 : World) (ι : Ren) (N0 : Nat) (ops : Array Oper) (fr : Fr) (ls : List Bool) (steps : List Step) (heaps : List Hp) (k : Nat) (L : Nat → Bool) (ι1 : Ren) (f : Fr) (μ1 : Hp) (a : Act) (w : World) : Prop where
 hp : heaps[k]? = some μ1
 sim : Sim pr w0 E.ng ι1 μ1 w
 ext : Ext N0 ι ι1
 ge0 : N0 ≤ μ1.next
 sz : a.tmps.size = f.sz
 tmp : ∀ t,notP (f.get t) = true → a.tmps.getD t undef = conc ι1 (f.get t)
 df : a.defers = f.df.map (concD ι1)
 at_ : At ops steps fr (fun i => L i = true) f
 done : ∀ i s,steps[i]? = some s → ls[i]? = some true → s.k < k → L i = true
 vals : ∀ i s,steps[i]? = some s → L i = true → (ls[i]? = some true∧k ≤ s.k) ∨ Bd μ1.next s.v
 early : ∀ i s,steps[i]? = some s → L i = true → ls[i]? = some true → k ≤ s.k →
  ∃ n zs μa μb,s.v = .pointer (some ⟨n,0,none⟩)∧zs.all atom = true∧heaps[s.k]? = some μa∧heaps[s.k + 1]? = some μb∧μa.new (.cells zs 0) = some (n,μb)∧Early w0 ι1 μ1 w n zs
 apart : ∀ i j s s' n n',i ≠ j → steps[i]? = some s → steps[j]? = some s' → L i = true → L j = true → ls[i]? = some true → ls[j]? = some true → k ≤ s.k → k ≤ s'.k →
  s.v = .pointer (some ⟨n,0,none⟩) → s'.v = .pointer (some ⟨n',0,none⟩) → (ι1.loc n).1 ≠ (ι1.loc n').1
omit hE in
theorem InvF.adv {ι : Ren} {N0 : Nat} {ops : Array Oper} {fr : Fr} {ls : List Bool} {steps : List Step} {heaps : List Hp} {k : Nat} {L : Nat → Bool} {ι1 : Ren} {f : Fr} {μ1 : Hp} {a : Act} {w : World}
  (hrise : rises heaps = true) (hk : ∀ j s,steps[j]? = some s → s.k = countB ls (fun i => decide (i < j)) 0)
  (h : InvF E pr w0 ι N0 ops fr ls steps heaps k L ι1 f μ1 a w) {i : Nat} {s : Step} (hs : steps[i]? = some s) (hl : ls[i]? = some true) (hki : s.k = k) (hL : L i = true) :
  ∃ μ2,InvF E pr w0 ι N0 ops fr ls steps heaps (k + 1) L ι1 f μ2 a w:=by
 obtain ⟨n,zs,μa,μb,hv,hat,hμa,hμb,hnew,he⟩:=h.early i s hs hL hl (by omega)
 rw [hki] at hμa hμb
 rw [h.hp] at hμa
 simp at hμa;subst hμa
 obtain ⟨e1,e2,e3⟩:=Hp.new_eq hnew
 have hnb : μb.next = μ1.next + 1:=by rw [e3]
 have hupd : ι1.updQ n (ι1.loc n) (ι1.ext n) (ι1.opq n) = ι1:=by
  unfold Ren.updQ
  congr 1
  ·funext m;split
   ·rename_i e;rw [e]
   ·rfl
  ·funext m;split
   ·rename_i e;rw [e]
   ·rfl
  ·funext m;split
   ·rename_i e;rw [e]
   ·rfl
 have hS : Sim pr w0 E.ng ι1 μb w:=by
  have:=h.sim.newAtQ (ι1.opq n) hnew (w':=w) (l:=ι1.loc n) (e:=ι1.ext n) rfl rfl rfl (Nat.le_refl _) (fun _ _ _ => rfl) (fun _ => he.blk) (fun _ hlt => absurd hlt (by have:=he.new;omega)) (fun _ m o' hg hlv => he.free m o' hg hlv) (fun _ => he.nfz)
   (by
    rw [hupd]
    refine ⟨fun j v hj => ?_,fun j hj => ?_⟩
    ·have hc:=he.cell j v hj
     have ha:=conc_atom ι1 μb.next v (List.all_eq_true.1 hat v (List.mem_of_getElem? hj))
     rw [ha.1,he.zero,Nat.zero_add]
     exact ⟨hc.1,ha.2⟩
    ·simp only [Nat.mul_zero,Nat.add_zero] at hj
     have hc:=he.cell j zs[j] (List.getElem?_eq_getElem hj)
     rw [he.zero,Nat.zero_add]
     exact ⟨by rw [hc.1];rfl,hc.2⟩)
  rw [hupd] at this
  exact this.1
 refine ⟨μb,hμb,hS,h.ext,by have:=h.ge0;omega,h.sz,h.tmp,h.df,h.at_,?_,?_,?_,?_⟩
 ·intro j s' hj hlj hlt
  by_cases hjk : s'.k < k
  ·exact h.done j s' hj hlj hjk
  ·have h1:=hk j s' hj
   have h2:=hk i s hs
   have hij : j = i:=by
    rcases Nat.lt_trichotomy j i with hlt' | rfl | hlt'
    ·have:=countB_lt ls 0 j i hlt' hlj;simp only [Nat.zero_add] at this;omega
    ·rfl
    ·have:=countB_lt ls 0 i j hlt' hl;simp only [Nat.zero_add] at this;omega
   rw [hij];exact hL
 ·intro j s' hj hLj
  rcases h.vals j s' hj hLj with ⟨h1,h2⟩ | h1
  ·by_cases hjk : s'.k = k
   ·right
    obtain ⟨n',zs',μa',μb',hv',_,hμa',_,hnew',_⟩:=h.early j s' hj hLj h1 h2
    rw [hjk,h.hp] at hμa'
    simp at hμa';subst hμa'
    have h5:=(Hp.new_eq hnew').1
    rw [hv',Bd_ptr]
    simp only
    omega
   ·exact .inl ⟨h1,by omega⟩
  ·exact .inr (Bd.mono (by omega) _ h1)
 ·intro j s' hj hLj hlj hkj
  obtain ⟨n',zs',μa',μb',hv',hat',hμa',hμb',hnew',he'⟩:=h.early j s' hj hLj hlj (by omega)
  refine ⟨n',zs',μa',μb',hv',hat',hμa',hμb',hnew',he'.blk,he'.new,he'.zero,he'.cell,?_,he'.nfz,?_⟩
  ·intro m o hg hlv
   by_cases hm : m = n
   ·subst hm
    refine h.apart i j s s' _ _ (fun e => ?_) hs hj hL hLj hl hlj (by omega) (by omega) hv hv'
    subst e
    rw [hs] at hj;simp at hj;subst hj;omega
   ·refine he'.free m o ?_ hlv
    rw [e3] at hg
    have:=get_put_other (μ:=μ1) (.cells zs 0) (Ne.symm (show m ≠ μ1.next by omega))
    simp only [Hp.get,Hp.put] at this hg
    rw [this] at hg
    exact hg
  ·rw [(Hp.new_eq hnew').1]
   exact rises_spec hrise (k + 1) s'.k μb μa' hkj hμb hμa'
 ·intro i' j' s1 s2 n1 n2 hne h1 h2 hL1 hL2 hl1 hl2 hk1 hk2
  exact h.apart i' j' s1 s2 n1 n2 hne h1 h2 hL1 hL2 hl1 hl2 (by omega) (by omega)
omit hE in
theorem InvF.advs {ι : Ren} {N0 : Nat} {ops : Array Oper} {fr : Fr} {ls : List Bool} {steps : List Step} {heaps : List Hp} {L : Nat → Bool} {ι1 : Ren} {f : Fr} {a : Act} {w : World}
  (hrise : rises heaps = true) (hlen : steps.length = ls.length) (hk : ∀ j s,steps[j]? = some s → s.k = countB ls (fun i => decide (i < j)) 0) :
  ∀ (d k : Nat) {μ1 : Hp},k + d = preB ls L 0 → InvF E pr w0 ι N0 ops fr ls steps heaps k L ι1 f μ1 a w → ∃ μ2,InvF E pr w0 ι N0 ops fr ls steps heaps (preB ls L 0) L ι1 f μ2 a w:=by
 intro d
 induction d with
 | zero => intro k μ1 hd h;rw [Nat.add_zero] at hd;rw [← hd];exact ⟨μ1,h⟩
 | succ d ih =>
  intro k μ1 hd h
  have hlt : k < preB ls L 0:=by omega
  have hle:=preB_le ls L 0
  have htot : countB ls L 0 ≤ countB ls (fun _ => true) 0:=countB_mono _ _ _ _ fun _ _ _ => rfl
  obtain ⟨i,hi,hc⟩:=nth_loud ls 0 k (by omega)
  simp only [Nat.zero_add] at hc
  have hLi:=preB_in ls L 0 i hi (by simp only [Nat.zero_add];omega)
  rw [Nat.zero_add] at hLi
  have hil : i < ls.length:=(List.getElem?_eq_some_iff.1 hi).1
  have hs : steps[i]? = some steps[i]:=List.getElem?_eq_getElem (by omega)
  obtain ⟨μ2,h2⟩:=h.adv hrise hk hs hi (by rw [hk i _ hs];exact hc) hLi
  exact ih (k + 1) (by omega) h2
theorem drawnF_go {callF : CallF} (hC : ∀ pr w0,CallsOk P pr w0 E.ng callF) {ops : Array Oper} {Q : Exit → Act → World → Prop} {ι : Ren} {μ : Hp} {fr : Fr} {fr' : Fr} {μ' : Hp} {steps : List Step} {heaps : List Hp}
  (hO : OpenF E ops) (hlim : fr.sz < limit) (hP : Pass P E callF ops ops.toList fr μ 0 steps heaps fr') (hrise : rises heaps = true) (hq : quietOkF P E (befA ops.toList []) (loudL E ops.toList steps) heaps ops.toList steps ops.toList steps 0 = true)
  (hlast : heaps.getLast? = some μ') (hG : Goal pr w0 E.ng ι μ Q .normal fr' μ') (hold : ∀ t,notP (fr.get t) = true → Bd μ.next (fr.get t)) (hbd : ∀ d ∈ fr.df,BdD μ.next d) :
  ∀ (fuel : Nat) (listed : Array Bool) (a : Act) (w : World),listed.size = ops.size → fuel + countB (List.replicate ops.size true) (fun i => listed.getD i false) 0 = ops.size → Closed ops (fun i => listed.getD i false) →
   (∃ ι1 f μ1,InvF E pr w0 ι μ.next ops fr (loudL E ops.toList steps) steps heaps (preB (loudL E ops.toList steps) (fun i => listed.getD i false) 0) (fun i => listed.getD i false) ι1 f μ1 a w) →
   wpAny P .any ops Q fuel listed a w:=by
 have hlen : steps.length = ops.size:=by simpa using hP.len
 have hll : (loudL E ops.toList steps).length = ops.size:=by simp [loudL,hlen]
 have hpos : ∀ (j : Nat) (s : Step),steps[j]? = some s → s.k = countB (loudL E ops.toList steps) (fun i => decide (i < j)) 0:=fun j s hs => by have:=hP.k j s hs;omega
 generalize hls : loudL E ops.toList steps = ls at *
 have hlsj : ∀ (j : Nat) (o : Oper) (s : Step),ops[j]? = some o → steps[j]? = some s → ls[j]? = some (loud E o.op && s.on):=by
  intro j o s ho hs
  have ho' : ops.toList[j]? = some o:=by simpa using ho
  rw [← hls]
  simp only [loudL,List.getElem?_zipWith,ho',hs]
 have htot : ∀ (j : Nat) (s : Step),steps[j]? = some s → ls[j]? = some true → s.k < countB ls (fun _ => true) 0:=by
  intro j s hs hl
  rw [hpos j s hs]
  have hjl : j < ls.length:=(List.getElem?_eq_some_iff.1 hl).1
  have h1:=countB_lt ls 0 j ls.length hjl hl
  simp only [Nat.zero_add] at h1
  exact Nat.lt_of_lt_of_le h1 (countB_mono _ _ _ _ fun _ _ _ => rfl)
 have hhl : heaps.length = countB ls (fun _ => true) 0 + 1:=by rw [← hls];exact hP.hlen
 have hend : ∀ (listed : Array Bool) (a : Act) (w : World),(∀ j,j < ops.size → listed.getD j false = true) →
   (∃ ι1 f μ1,InvF E pr w0 ι μ.next ops fr ls steps heaps (preB ls (fun i => listed.getD i false) 0) (fun i => listed.getD i false) ι1 f μ1 a w) → Q .normal a w:=by
  rintro listed a w hall ⟨ι1,f,μ1,h⟩
  have hc : preB ls (fun i => listed.getD i false) 0 = heaps.length - 1:=by
   rw [hhl,Nat.add_sub_cancel]
   refine preB_all _ _ _ fun k hk => ?_
   have hk' : k < ops.size:=by rw [← hll];exact (List.getElem?_eq_some_iff.1 hk).1
   simpa using hall k hk'
  have hμ1:=h.hp
  rw [hc,← List.getLast?_eq_getElem?,hlast] at hμ1
  simp at hμ1;subst hμ1
  have hA':=framesF hO hlim hP ops.size (Nat.le_refl _)
  have hfr' : frAt steps fr' ops.size = fr':=by unfold frAt;rw [List.getElem?_eq_none (by omega)];rfl
  rw [hfr'] at hA'
  have hA:=h.at_
  have hget : ∀ t,f.get t = fr'.get t∧(notP (f.get t) = true → Bd μ'.next (f.get t)):=by
   intro t
   by_cases hex : ∃ (i : Nat) (oi : Oper),ops[i]? = some oi∧oi.dst = some t
   ·obtain ⟨i,oi,hi,hd⟩:=hex
    have hlt : i < ops.size:=(Array.getElem?_eq_some_iff.1 hi).1
    have hs : steps[i]? = some steps[i]:=List.getElem?_eq_getElem (by omega)
    have e:=hA.yes i oi _ t hi hs hd (hall i hlt)
    refine ⟨by rw [e,hA'.yes i oi _ t hi hs hd hlt],fun _ => ?_⟩
    rw [e]
    rcases h.vals i _ hs (hall i hlt) with ⟨h1,h2⟩ | h1
    ·have:=htot i _ hs h1;omega
    ·exact h1
   ·have e:=hA.no t fun i o hi hd => absurd ⟨i,o,hi,hd⟩ hex
    refine ⟨by rw [e,hA'.no t fun i o hi hd => absurd ⟨i,o,hi,hd⟩ hex],fun hn => ?_⟩
    rw [e] at hn ⊢
    exact Bd.mono h.ge0 _ (hold t hn)
  refine hG ι1 a w h.ext h.ge0 h.sim ⟨?_,?_,fun t => ?_,?_,fun d hd => ?_⟩
  ·rw [h.sz,hA.sz,hA'.sz]
  ·rw [hA'.sz];exact hlim
  ·rw [← (hget t).1];exact fun hn => ⟨h.tmp t hn,(hget t).2 hn⟩
  ·rw [h.df,hA.df,hA'.df]
  ·exact BdD.mono h.ge0 (hbd d (by rw [← hA'.df];exact hd))
 intro fuel
 induction fuel with
 | zero =>
  intro listed a w hsz hcnt hcl hI
  have hall : ∀ j,j < ops.size → listed.getD j false = true:=fun j hj => by simpa using countB_full ops.size _ 0 (by simpa using hcnt) j hj
  refine ⟨?_,hend listed a w hall hI⟩
  cases hr : Region.ready .any ops listed with
  | nil => rfl
  | cons j r =>
   exfalso
   have hm : j ∈ Region.ready .any ops listed:=by rw [hr];simp
   rw [mem_ready] at hm
   obtain ⟨h0,o,ho,_⟩:=hm
   have hj : j < ops.size:=(Array.getElem?_eq_some_iff.1 ho).1
   have:=hall j hj
   simp [Array.getD,hsz,hj] at this h0
   rw [this] at h0
   simp at h0
 | succ fuel ih =>
  intro listed a w hsz hcnt hcl hI
  refine ⟨fun hr => hend listed a w (ready_nilF hO hsz hr) hI,fun j hj => ?_⟩
  rw [mem_ready] at hj
  obtain ⟨h0,o,ho,hed⟩:=hj
  have hlt : j < ops.size:=(Array.getElem?_eq_some_iff.1 ho).1
  have hun : listed.getD j false = false:=by simpa [Array.getD,hsz,hlt] using h0
  obtain ⟨ι1,f,μ1,hI⟩:=hI
  have hs : steps[j]? = some steps[j]:=List.getElem?_eq_getElem (by omega)
  generalize steps[j] = s at hs
  obtain ⟨hp1,hp2⟩:=hP.put j o s (by simpa using ho) hs
  have hAj:=framesF hO hlim hP j (by omega)
  rw [← hp1] at hAj
  have hrd : ∀ o',ops[j]? = some o' → ∀ e ∈ o'.after,Region.binds .any e = true → listed.getD e.on false = true:=by
   intro o' ho' e he hb
   rw [ho] at ho';simp at ho';subst ho'
   exact hed e he hb
  have hlook : ∀ t ∈ o.looksAt ops,f.get t = s.fr.get t:=fun t ht => (look_sameF hO hlen hcl ho hun hrd hI.at_ hAj ht).1
  have hL' : ∀ k,k ≠ j → (listed.setIfInBounds j true).getD k false = listed.getD k false:=fun k hk => getD_set_ne false (Ne.symm hk)
  have hLj : (listed.setIfInBounds j true).getD j false = true:=by simp [Array.getD,hsz,hlt]
  generalize hkk : preB ls (fun i => listed.getD i false) 0 = k at hI
  -- what is unlisted is not within the prefix
  have hunk : ∀ (i : Nat) (s' : Step),steps[i]? = some s' → ls[i]? = some true → listed.getD i false = false → k ≤ s'.k:=by
   intro i s' hs' hl hu
   by_cases hlt' : s'.k < k
   ·have:=hI.done i s' hs' hl hlt'
    rw [hu] at this;cases this
   ·omega
  -- a loud one that is there,and no float,is within the prefix
  have hink : ∀ (i : Nat) (oi : Oper) (s' : Step),ops[i]? = some oi → steps[i]? = some s' → ls[i]? = some true → listed.getD i false = true → isFlo E oi = false → s'.k < k:=by
   intro i oi s' hi hs' hl hli hnf
   by_cases hlt' : s'.k < k
   ·exact hlt'
   ·exfalso
    have ht:=htot i s' hs' hl
    obtain ⟨q,hq1,hq2⟩:=nth_loud ls 0 k (by omega)
    simp only [Nat.zero_add] at hq2
    have hqu:=preB_stop ls (fun i => listed.getD i false) 0 q hq1 (by simp only [Nat.zero_add];rw [hq2,hkk])
    simp only [Nat.zero_add] at hqu
    have hqi : q ≠ i:=fun e => by subst e;rw [hli] at hqu;cases hqu
    have hqlt : q < i:=by
     rcases Nat.lt_trichotomy q i with h1 | h1 | h1
     ·exact h1
     ·exact absurd h1 hqi
     ·have h2:=countB_lt ls 0 i q h1 hl
      simp only [Nat.zero_add] at h2
      have h3:=hpos i s' hs'
      omega
    have hqs : q < ops.size:=by have:=(Array.getElem?_eq_some_iff.1 hi).1;omega
    have hoq : ops[q]? = some ops[q]:=Array.getElem?_eq_getElem hqs
    have hsq : steps[q]? = some steps[q]:=List.getElem?_eq_getElem (by omega)
    have hlq:=hlsj q _ _ hoq hsq
    rw [hq1] at hlq
    have hlq2 : loud E ops[q].op = true:=by simp only [Option.some.injEq] at hlq;have:=hlq.symm;simp only [Bool.and_eq_true] at this;exact this.1
    have hli2:=hlsj i _ _ hi hs'
    rw [hl] at hli2
    have hli3 : loud E oi.op = true:=by simp only [Option.some.injEq] at hli2;have:=hli2.symm;simp only [Bool.and_eq_true] at this;exact this.1
    have hbit:=hO.ord q i _ _ hoq hi hlq2 hli3 hnf hqlt
    have:=bef_listed hcl i q (hcl i hli) hbit
    rw [this] at hqu;cases hqu
  -- behind it
  have hnext : ∀ (k2 : Nat) ι2 μ2 w2 f2,k2 ≤ preB ls (fun i => (listed.setIfInBounds j true).getD i false) 0 →
    InvF E pr w0 ι μ.next ops fr ls steps heaps k2 (fun i => (listed.setIfInBounds j true).getD i false) ι2 f2 μ2 (a.put o.dst (conc ι2 s.v)) w2 →
    wpAny P .any ops Q fuel (listed.setIfInBounds j true) (a.put o.dst (conc ι2 s.v)) w2:=by
   intro k2 ι2 μ2 w2 f2 hk2 hI2
   refine ih _ _ _ (by simp [hsz]) ?_ ?_ ?_
   ·have:=countB_one (List.replicate ops.size true) (fun i => listed.getD i false) (fun i => (listed.setIfInBounds j true).getD i false) 0 j (by simpa using hun) (by simpa using hLj) (fun k hk => by simpa using (hL' k hk).symm)
    rw [List.getElem?_replicate,if_pos hlt] at this
    simp only [Option.getD_some,cond_true] at this
    omega
   ·intro i hi o' ho' e he hb
    by_cases hij : i = j
    ·subst hij;exact getD_set_true (hrd o' ho' e he hb)
    ·exact getD_set_true (hcl i (by have:=hL' i hij;simp only at hi ⊢;rw [← this];exact hi) o' ho' e he hb)
   ·obtain ⟨μ3,h3⟩:=InvF.advs hrise (by rw [hlen,hll]) hpos _ k2 (Nat.add_sub_cancel' hk2) hI2
    exact ⟨ι2,f2,μ3,h3⟩
  have hpre : k ≤ preB ls (fun i => (listed.setIfInBounds j true).getD i false) 0:=by
   rw [← hkk]
   exact preB_mono _ _ _ _ fun i _ hi => by simp only [Nat.zero_add] at hi ⊢;exact getD_set_true hi
  have hAfter : ∀ {f2 : Fr},f.put o.dst s.v = some f2 → At ops steps fr (fun i => (listed.setIfInBounds j true).getD i false = true) f2:=by
   intro f2 hf2
   refine hI.at_.put hO.dst hlim ho hs hf2 fun i => ?_
   by_cases hij : i = j
   ·subst hij;simp only [hLj,or_true]
   ·rw [hL' i hij];simp [hij]
  obtain ⟨f2,hf2⟩:=put_same (by rw [hI.at_.sz,hAj.sz]) hp2
  obtain ⟨g1,g2,g3,g4⟩:=put_spec (by rw [hI.at_.sz];exact hlim) hf2
  -- values under other names
  have hvals : ∀ (ι2 : Ren),Ext μ1.next ι1 ι2 → (∀ (i : Nat) (s' : Step) (n : Nat),steps[i]? = some s' → listed.getD i false = true → ls[i]? = some true → k ≤ s'.k → s'.v = .pointer (some ⟨n,0,none⟩) → ι2.loc n = ι1.loc n) →
    ∀ t,notP (f.get t) = true → conc ι2 (f.get t) = conc ι1 (f.get t):=by
   intro ι2 hx hn t ht
   by_cases hex : ∃ (i : Nat) (oi : Oper),ops[i]? = some oi∧oi.dst = some t∧listed.getD i false = true
   ·obtain ⟨i,oi,hi,hd,hli⟩:=hex
    have hil : i < ops.size:=(Array.getElem?_eq_some_iff.1 hi).1
    have hsi : steps[i]? = some steps[i]:=List.getElem?_eq_getElem (by omega)
    rw [hI.at_.yes i oi _ t hi hsi hd hli]
    rcases hI.vals i _ hsi hli with ⟨h1,h2⟩ | h1
    ·obtain ⟨n,zs,μa,μb,hv,_⟩:=hI.early i _ hsi hli h1 h2
     rw [hv,conc_ptr,conc_ptr]
     simp only [Ren.addr,hn i _ n hsi hli h1 h2 hv]
    ·exact conc_ext hx _ h1
   ·have e:=hI.at_.no t fun i o hi hd hli => hex ⟨i,o,hi,hd,hli⟩
    rw [e] at ht ⊢
    exact conc_ext hx _ (Bd.mono hI.ge0 _ (hold t ht))
  have htmps : ∀ (ι2 : Ren),Ext μ1.next ι1 ι2 → (∀ (i : Nat) (s' : Step) (n : Nat),steps[i]? = some s' → listed.getD i false = true → ls[i]? = some true → k ≤ s'.k → s'.v = .pointer (some ⟨n,0,none⟩) → ι2.loc n = ι1.loc n) →
    (a.put o.dst (conc ι2 s.v)).tmps.size = f2.sz∧(∀ t,notP (f2.get t) = true → (a.put o.dst (conc ι2 s.v)).tmps.getD t undef = conc ι2 (f2.get t))∧(a.put o.dst (conc ι2 s.v)).defers = f2.df.map (concD ι2):=by
   intro ι2 hx hn
   have hdfs : a.defers = f.df.map (concD ι2):=by
    rw [hI.df]
    refine List.map_congr_left fun d hd => ?_
    rw [hI.at_.df] at hd
    exact (concD_ext hx (BdD.mono hI.ge0 (hbd d hd))).symm
   cases hd : o.dst with
   | none =>
    simp only [Act.put]
    have hff : ∀ t,f2.get t = f.get t:=fun t => g4 t (by rw [hd];simp)
    exact ⟨by rw [g1];exact hI.sz,fun t ht => by rw [hff] at ht ⊢;rw [hvals ι2 hx hn t ht];exact hI.tmp t ht,by rw [g2];exact hdfs⟩
   | some d =>
    simp only [Act.put]
    refine ⟨by rw [g1];simpa using hI.sz,fun t ht => ?_,by rw [g2];exact hdfs⟩
    by_cases htd : t = d
    ·subst htd
     rw [g3 t hd]
     have hlt2 : t < a.tmps.size:=by
      rw [hI.sz]
      unfold Fr.put at hf2
      rw [hd] at hf2
      simp only at hf2
      cases hb : Nat.blt t f.sz with
      | false => rw [hb] at hf2;cases hf2
      | true => simpa [Nat.blt_eq] using hb
     simp [Array.getD,hlt2]
    ·have hff : f2.get t = f.get t:=g4 t (by rw [hd];simp;exact fun e => htd e.symm)
     rw [hff] at ht ⊢
     rw [hvals ι2 hx hn t ht,← hI.tmp t ht]
     simp [Array.getD_eq_getD_getElem?,Array.getElem?_setIfInBounds_ne (Ne.symm htd)]
  obtain ⟨hoff,⟨hkn,hon⟩,hitem⟩:=hP.item j o s (by simpa using ho) hs
  rw [hls] at hitem
  have hwanted : Region.wanted o (yielded ops a.tmps) = s.on:=by
   rw [hon,← wantedA_congr hlook]
   -- the guard's slot
   have hkn' : knownA ops f o = true:=by rw [knownA_congr hlook];exact hkn
   unfold knownA at hkn'
   unfold Region.wanted wantedA
   cases hgu : o.guard with
   | none => rfl
   | some q =>
    obtain ⟨g,want⟩:=q
    rw [hgu] at hkn'
    simp only at hkn' ⊢
    unfold yielded
    cases hd : (ops[g]?).bind (·.dst) with
    | none => rfl
    | some d =>
     simp only [Option.bind_some]
     rw [hd] at hkn'
     have h1:=hI.tmp d hkn'
     rcases Nat.lt_or_ge d a.tmps.size with hlt | hge
     ·have hgd : a.tmps[d]? = some (conc ι1 (f.get d)):=by
       rw [Array.getElem?_eq_getElem hlt]
       simp [Array.getD,hlt] at h1
       rw [h1]
      rw [hgd]
      cases hv : f.get d with
      | bool b => cases b <;> cases want <;> simp
      | pointer x => cases x <;> simp
      | slice x l c => cases x <;> simp
      | map x => cases x <;> simp
      | chan x =>
       cases x with
       | none => simp [conc]
       | some l =>
        simp only [conc_chan]
        cases hc : ι1.chan l with
        | bool c => exact absurd hc (ι1.chan_bool l c)
        | _ => simp
      | _ => simp
     ·have hu : conc ι1 (f.get d) = undef:=by rw [← h1];simp [Array.getD,Nat.not_lt.2 hge]
      rw [Array.getElem?_eq_none hge]
      cases hv : f.get d with
      | bool b => rw [hv] at hu;simp [undef] at hu
      | _ => rfl
  have hlj:=hlsj j o s ho hs
  unfold wpOp
  simp only [ho]
  rw [hwanted]
  -- an operation that leaves the prefix where it is
  have hstill : ∀ (ι2 : Ren) (w2 : World),Sim pr w0 E.ng ι2 μ1 w2 → Ext μ1.next ι1 ι2 → (∀ (i : Nat) (s' : Step) (n : Nat),steps[i]? = some s' → listed.getD i false = true → ls[i]? = some true → k ≤ s'.k → s'.v = .pointer (some ⟨n,0,none⟩) → ι2.loc n = ι1.loc n) →
    (∀ n zs,Early w0 ι1 μ1 w n zs → ι2.loc n = ι1.loc n → Early w0 ι2 μ1 w2 n zs) → ls[j]? = some false → Bd μ1.next s.v →
    InvF E pr w0 ι μ.next ops fr ls steps heaps k (fun i => (listed.setIfInBounds j true).getD i false) ι2 f2 μ1 (a.put o.dst (conc ι2 s.v)) w2:=by
   intro ι2 w2 hS2 hx hn hE2 hlf hbv
   obtain ⟨t1,t2,t3⟩:=htmps ι2 hx hn
   have hne : ∀ i,ls[i]? = some true → i ≠ j:=fun i hi e => by subst e;rw [hlf] at hi;cases hi
   have back : ∀ i,i ≠ j → (fun i => (listed.setIfInBounds j true).getD i false) i = true → listed.getD i false = true:=fun i hij h => by simp only [hL' i hij] at h;exact h
   refine ⟨hI.hp,hS2,hI.ext.trans hx hI.ge0,hI.ge0,t1,t2,t3,hAfter hf2,?_,?_,?_,?_⟩
   ·intro i s' hs' hl hlt';exact getD_set_true (hI.done i s' hs' hl hlt')
   ·intro i s' hs' hli
    by_cases hij : i = j
    ·subst hij;rw [hs] at hs';simp at hs';subst hs';exact .inr hbv
    ·exact hI.vals i s' hs' (back i hij hli)
   ·intro i s' hs' hli hl hk'
    have hli':=back i (hne i hl) hli
    obtain ⟨n,zs,μa,μb,hv,h1,h2,h3,h4,h5⟩:=hI.early i s' hs' hli' hl hk'
    exact ⟨n,zs,μa,μb,hv,h1,h2,h3,h4,hE2 n zs h5 (hn i s' n hs' hli' hl hk' hv)⟩
   ·intro i i' s1 s2 n1 n2 hne' h1 h2 hl1 hl2 hq1 hq2 hk1 hk2 hv1 hv2
    have e1:=back i (hne i hq1) hl1
    have e2:=back i' (hne i' hq2) hl2
    rw [hn i s1 n1 h1 e1 hq1 hk1 hv1,hn i' s2 n2 h2 e2 hq2 hk2 hv2]
    exact hI.apart i i' s1 s2 n1 n2 hne' h1 h2 e1 e2 hq1 hq2 hk1 hk2 hv1 hv2
  cases hson : s.on with
  | false =>
   simp only [Bool.false_eq_true,if_false]
   have hv : s.v = undef:=hoff hson
   have:=hnext k ι1 μ1 w f2 hpre (hstill ι1 w hI.sim (Ext.refl _ _) (fun _ _ _ _ _ _ _ _ => rfl) (fun _ _ h _ => h) (by rw [hlj,hson];simp) (by rw [hv];simp))
   rw [hv,conc_undef] at this
   exact this
  | true =>
   simp only [if_true]
   left
   rw [hson,Bool.and_true] at hlj
   -- what the operation is handed
   have hopnd : (isFlo E o = false∧loud E o.op = true) ∨ loud E o.op = false → ∀ x ∈ o.op.operands,okOpnd E s.fr.ev x = true → a.eval x = conc ι1 (s.fr.ev x)∧Bd μ1.next (s.fr.ev x):=by
    intro hkind x hx hok
    cases x with
    | const v =>
     have:=conc_plain ι1 μ1.next 4 v hok
     exact ⟨this.1.symm,this.2⟩
    | global g =>
     simp only [okOpnd,Nat.blt_eq] at hok
     obtain ⟨⟨h1,_⟩,h2⟩:=hI.sim.glob g hok
     refine ⟨?_,by simpa [Fr.ev] using h2⟩
     simp [Act.eval,Fr.ev,Ren.addr,h1]
    | func g => simp [Act.eval,Fr.ev]
    | tmp t =>
     have ht : t ∈ o.looksAt ops:=by simp only [Oper.looksAt];exact List.mem_append_left _ (List.mem_filterMap.2 ⟨.tmp t,by simpa using hx,rfl⟩)
     obtain ⟨e1,e2⟩:=look_sameF hO hlen hcl ho hun hrd hI.at_ hAj ht
     have hok' : notP (f.get t) = true:=by rw [e1];exact hok
     simp only [Fr.ev,Act.eval]
     rw [← e1]
     refine ⟨hI.tmp t hok',?_⟩
     rcases e2 with ⟨i,oi,si,hi,hd,hsi,hli,hij,hbit,hv⟩ | e2
     ·rw [hv]
      rcases hI.vals i si hsi hli with ⟨hl1,hl2⟩ | hb
      ·exfalso
       rcases hkind with ⟨hnf,hld⟩ | hqt
       ·have hkj : k = s.k:=by
         rw [← hkk,hpos j s hs]
         have:=preB_at ls (fun i => listed.getD i false) 0 j (by rw [hlj,hld]) (by simpa using hun) (fun q hq hlq => by
          rw [Nat.zero_add]
          have hqs : q < ops.size:=by omega
          have hoq : ops[q]? = some ops[q]:=Array.getElem?_eq_getElem hqs
          have hsq : steps[q]? = some steps[q]:=List.getElem?_eq_getElem (by omega)
          have hlq2:=hlsj q _ _ hoq hsq
          rw [hlq] at hlq2
          have hlq3 : loud E ops[q].op = true:=by simp only [Option.some.injEq] at hlq2;have:=hlq2.symm;simp only [Bool.and_eq_true] at this;exact this.1
          exact bef_listed hcl j q hrd (hO.ord q j _ _ hoq ho hlq3 hld hnf hq))
         simpa using this
        have h1:=countB_lt ls 0 i j hij hl1
        simp only [Nat.zero_add] at h1
        have h2:=hpos i si hsi
        have h3:=hpos j s hs
        omega
       ·cases hfi : isFlo E oi with
        | false => have:=hink i oi si hi hsi hl1 hli hfi;omega
        | true =>
         have hqa:=quietOkF_spec _ _ 0 hq j o s (by simpa using ho) hs
         unfold quietAtF at hqa
         simp only [hqt,hson,Bool.not_true,Bool.or_self,Bool.false_or,Nat.zero_add,Bool.and_eq_true] at hqa
         have h1:=floOk_spec _ _ 0 hqa.1 i oi si (by simpa using hi) hsi hfi (by rw [Nat.zero_add];exact hbit)
         have h2 : preB ls (fun i => ((befA ops.toList []).getD j 0).testBit i) 0 ≤ k:=by
          rw [← hkk]
          exact preB_mono _ _ _ _ fun q _ hq => by simp only [Nat.zero_add] at hq ⊢;exact bef_listed hcl j q hrd hq
         omega
      ·exact hb
     ·rw [e2] at hok' ⊢
      exact Bd.mono hI.ge0 _ (hold t hok')
   obtain ⟨m,hm,hitem⟩:=hitem hson
   have hpatch : ∀ (ι2 : Ren) (μ2 : Hp),μ1.next ≤ μ2.next → Ext μ1.next ι1 ι2 → ∃ ι3,Ext μ2.next ι2 ι3∧Ext μ1.next ι1 ι3∧(∀ n,μ2.next ≤ n → ι3.loc n = ι1.loc n)∧ι3.fz = ι2.fz∧ι3.wb = ι2.wb:=by
    intro ι2 μ2 hle hx
    refine ⟨{ ι2 with loc:=fun n => if n < μ2.next then ι2.loc n else ι1.loc n,ext:=fun n => if n < μ2.next then ι2.ext n else ι1.ext n,opq:=fun n => if n < μ2.next then ι2.opq n else ι1.opq n },⟨fun n hn => by simp [hn],fun n hn => by simp [hn],fun n hn => by simp [hn],fun _ h _ => ⟨h,rfl⟩⟩,⟨fun n hn => ?_,fun n hn => ?_,fun n hn => ?_,hx.fz⟩,fun n hn => by simp [Nat.not_lt.2 hn],rfl,rfl⟩
    ·simp only;rw [if_pos (by omega)];exact hx.loc n hn
    ·simp only;rw [if_pos (by omega)];exact hx.ext n hn
    ·simp only;rw [if_pos (by omega)];exact hx.opq n hn
   obtain ⟨pr',hpr',hpf',hS',hbackS⟩:=hI.sim.rebase
   cases hflo : isFlo E o with
   | true =>
    -- a new variable
    obtain ⟨t,z,hop,hgd,hz,hat,hld,hopA⟩:=flo_item (P:=P) hflo
    obtain ⟨μb,hμb,hnew,hv⟩ : ∃ μb,heaps[s.k + 1]? = some μb∧m.new (.cells z.cells.toList 0) = some (m.next,μb)∧s.v = .pointer (some ⟨m.next,0,none⟩):=by
     have hsk:=hpos j s hs
     rcases hitem with ⟨hq1,_⟩ | ⟨_,μ2,hμ2,hit⟩
     ·rw [hld] at hq1;cases hq1
     ·rcases hit with hit | ⟨g,args,m',hit,_⟩
      ·rw [hopA] at hit
       unfold newVarA at hit
       cases hn : m.new (.cells z.cells.toList 0) with
       | none => rw [hn] at hit;cases hit
       | some q =>
        obtain ⟨n,μq⟩:=q
        rw [hn] at hit
        simp only [Abs.ofVal,OR.val.injEq] at hit
        obtain ⟨hv,rfl⟩:=hit
        have:=(Hp.new_eq hn).1
        subst this
        exact ⟨μq,by rw [hsk];exact hμ2,rfl,hv.symm⟩
      ·rw [hopA] at hit
       unfold Abs.ofVal at hit
       split at hit <;> cases hit
    have hmk : heaps[s.k]? = some m:=by rw [hpos j s hs];exact hm
    have hks : k ≤ s.k:=hunk j s hs (by rw [hlj,hld]) hun
    have hge : μ1.next ≤ m.next:=rises_spec hrise k s.k μ1 m hks hI.hp hmk
    have hrun:=flo_run hE hop hz hat a.eval w
    unfold Oper.wp
    rw [hrun]
    simp only [Oper.upon]
    -- the new block
    have hx2 : Ext μ1.next ι1 (ι1.upd m.next (w.heap.size,0) 0):=(Ren.upd_ext ι1 m.next (w.heap.size,0) 0).mono hge
    have hsame : ∀ b,b < w.heap.size → (w.alloc (.cells z.cells t)).heap[b]? = w.heap[b]?:=fun b hb => heap_old w _ b hb
    have hbelow : RowKit.Below w.heap.size w (w.alloc (.cells z.cells t)):=(RowKit.Below.refl _ w).alloc (Nat.le_refl _) _
    have hS2 : Sim pr w0 E.ng (ι1.upd m.next (w.heap.size,0) 0) μ1 (w.alloc (.cells z.cells t)):=(hI.sim.ext hx2 rfl rfl).stays hbelow
    have hnn : ∀ (i : Nat) (s' : Step) (n : Nat),steps[i]? = some s' → listed.getD i false = true → ls[i]? = some true → k ≤ s'.k → s'.v = .pointer (some ⟨n,0,none⟩) → (ι1.upd m.next (w.heap.size,0) 0).loc n = ι1.loc n∧n ≠ m.next:=by
     intro i s' n hs' hli hl hk' hv'
     obtain ⟨n',zs,μa,μc,hv2,_,hμa,hμc,hnew2,_⟩:=hI.early i s' hs' hli hl hk'
     rw [hv'] at hv2
     simp only [Value.pointer.injEq,Option.some.injEq,Addr.mk.injEq,and_true] at hv2
     subst hv2
     have h1:=(Hp.new_eq hnew2).1
     have h2 : μc.next = μa.next + 1:=by rw [(Hp.new_eq hnew2).2.2]
     have h3 : μb.next = m.next + 1:=by rw [(Hp.new_eq hnew).2.2]
     have hne : n ≠ m.next:=by
      have hij : i ≠ j:=fun e => by subst e;rw [hun] at hli;cases hli
      have hsi:=hpos i s' hs'
      have hsj:=hpos j s hs
      rcases Nat.lt_or_ge i j with hlt' | hge'
      ·have:=countB_lt ls 0 i j hlt' hl
       simp only [Nat.zero_add] at this
       have:=rises_spec hrise (s'.k + 1) s.k μc m (by omega) hμc hmk
       omega
      ·have:=countB_lt ls 0 j i (by omega) (by rw [hlj,hld])
       simp only [Nat.zero_add] at this
       have:=rises_spec hrise (s.k + 1) s'.k μb μa (by omega) hμb hμa
       omega
     exact ⟨by simp [Ren.upd,Ren.updQ,hne],hne⟩
    have hloc : (ι1.upd m.next (w.heap.size,0) 0).loc m.next = (w.heap.size,0):=by simp [Ren.upd,Ren.updQ]
    have hkeepE : ∀ n zs,Early w0 ι1 μ1 w n zs → (ι1.upd m.next (w.heap.size,0) 0).loc n = ι1.loc n → Early w0 (ι1.upd m.next (w.heap.size,0) 0) μ1 (w.alloc (.cells z.cells t)) n zs:=by
     intro n zs he hl
     have hb:=hsame _ he.blk
     refine ⟨by rw [hl];exact Nat.lt_of_lt_of_le he.blk hbelow.size,by rw [hl];exact he.new,by rw [hl];exact he.zero,fun i v hv => ?_,fun q o hg hlv => ?_,by rw [hl];exact he.nfz,he.ge⟩
     ·rw [hl,World.cell?_of_block (w:=w) hb,World.frozen?_of_block (w:=w) hb];exact he.cell i v hv
     ·rw [hl,hx2.loc q (hI.sim.lt q o hg)];exact he.free q o hg hlv
    have hnewE : Early w0 (ι1.upd m.next (w.heap.size,0) 0) μ1 (w.alloc (.cells z.cells t)) m.next z.cells.toList:=by
     refine ⟨by rw [hloc];simp,by rw [hloc];exact hI.sim.size,by rw [hloc],fun i v hv => ?_,fun q o hg hlv => ?_,by rw [hloc];exact fun hf => Nat.lt_irrefl _ (hI.sim.frozen_lt hf),hge⟩
     ·rw [hloc]
      have hlt2 : i < z.cells.size:=by have:=(List.getElem?_eq_some_iff.1 hv).1;simpa using this
      simp only [World.cell?_alloc_new,World.frozen?_alloc_new]
      refine ⟨?_,by simp⟩
      rw [← hv];simp
     ·rw [hloc,hx2.loc q (hI.sim.lt q o hg)]
      exact Nat.ne_of_lt (hI.sim.blk q o hg hlv)
    have hcv : Value.pointer (some ⟨w.heap.size,0,none⟩) = conc (ι1.upd m.next (w.heap.size,0) 0) s.v:=by
     rw [hv,conc_ptr];simp [Ren.addr,hloc]
    rw [hcv]
    obtain ⟨t1,t2,t3⟩:=htmps _ hx2 (fun i s' n a b c d e => (hnn i s' n a b c d e).1)
    have back : ∀ i,i ≠ j → (fun i => (listed.setIfInBounds j true).getD i false) i = true → listed.getD i false = true:=fun i hij h => by simp only [hL' i hij] at h;exact h
    refine hnext k _ μ1 _ f2 hpre ⟨hI.hp,hS2,hI.ext.trans hx2 hI.ge0,hI.ge0,t1,t2,t3,hAfter hf2,?_,?_,?_,?_⟩
    ·intro i s' hs' hl hlt';exact getD_set_true (hI.done i s' hs' hl hlt')
    ·intro i s' hs' hli
     by_cases hij : i = j
     ·subst hij;rw [hs] at hs';simp at hs';subst hs';exact .inl ⟨by rw [hlj,hld],hks⟩
     ·exact hI.vals i s' hs' (back i hij hli)
    ·intro i s' hs' hli hl hk'
     by_cases hij : i = j
     ·subst hij;rw [hs] at hs';simp at hs';subst hs'
      exact ⟨m.next,z.cells.toList,m,μb,hv,hat,hmk,hμb,hnew,hnewE⟩
     ·obtain ⟨n,zs,μa,μc,hv',h1,h2,h3,h4,h5⟩:=hI.early i s' hs' (back i hij hli) hl hk'
      exact ⟨n,zs,μa,μc,hv',h1,h2,h3,h4,hkeepE n zs h5 (hnn i s' n hs' (back i hij hli) hl hk' hv').1⟩
    ·intro i i' s1 s2 n1 n2 hne' h1 h2 hl1 hl2 hq1 hq2 hk1 hk2 hv1 hv2
     have eold : ∀ (i : Nat) (s1 : Step) (n1 : Nat),i ≠ j → steps[i]? = some s1 → listed.getD i false = true → ls[i]? = some true → k ≤ s1.k → s1.v = .pointer (some ⟨n1,0,none⟩) → ((ι1.upd m.next (w.heap.size,0) 0).loc n1).1 < w.heap.size:=by
      intro i s1 n1 hij h1 hl1 hq1 hk1 hv1
      rw [(hnn i s1 n1 h1 hl1 hq1 hk1 hv1).1]
      obtain ⟨n',zs,μa,μc,hv',_,_,_,_,h5⟩:=hI.early i s1 h1 hl1 hq1 hk1
      rw [hv1] at hv'
      simp only [Value.pointer.injEq,Option.some.injEq,Addr.mk.injEq,and_true] at hv'
      subst hv'
      exact h5.blk
     have enew : ∀ (s1 : Step) (n1 : Nat),steps[j]? = some s1 → s1.v = .pointer (some ⟨n1,0,none⟩) → ((ι1.upd m.next (w.heap.size,0) 0).loc n1).1 = w.heap.size:=by
      intro s1 n1 h1 hv1
      rw [hs] at h1;simp at h1;subst h1
      rw [hv] at hv1
      simp only [Value.pointer.injEq,Option.some.injEq,Addr.mk.injEq,and_true] at hv1
      subst hv1
      rw [hloc]
     by_cases hij : i = j
     ·subst hij
      have e2:=eold i' s2 n2 (Ne.symm hne') h2 (back i' (Ne.symm hne') hl2) hq2 hk2 hv2
      rw [enew s1 n1 h1 hv1]
      omega
     ·by_cases hij' : i' = j
      ·subst hij'
       have e1:=eold i s1 n1 hij h1 (back i hij hl1) hq1 hk1 hv1
       rw [enew s2 n2 h2 hv2]
       omega
      ·rw [(hnn i s1 n1 h1 (back i hij hl1) hq1 hk1 hv1).1,(hnn i' s2 n2 h2 (back i' hij' hl2) hq2 hk2 hv2).1]
       exact hI.apart i i' s1 s2 n1 n2 hne' h1 h2 (back i hij hl1) (back i' hij' hl2) hq1 hq2 hk1 hk2 hv1 hv2
   | false =>
   cases hldq : loud E o.op with
   | false =>
    have hbits:=hopnd (.inr hldq)
    have hrel:=op_rel (ng:=E.ng) hE hS' o a.eval s.fr.ev hbits
    rcases hitem with ⟨_,hitem⟩ | ⟨hl1,_⟩
    ·have hop : opA P E s.fr.ev o μ1 = .val s.v μ1:=by
      have hqa:=quietOkF_spec _ _ 0 hq j o s (by simpa using ho) hs
      unfold quietAtF at hqa
      simp only [hldq,hson,Bool.not_true,Bool.or_self,Bool.false_or,Nat.zero_add,Bool.or_eq_true,Bool.and_eq_true] at hqa
      have hlo : preB ls (fun i => ((befA ops.toList []).getD j 0).testBit i) 0 ≤ k:=by
       rw [← hkk]
       exact preB_mono _ _ _ _ fun q _ hq => by simp only [Nat.zero_add] at hq ⊢;exact bef_listed hcl j q hrd hq
      have hhi : k ≤ countB ls (fun i => !((befA ops.toList []).getD i 0).testBit j) 0:=by
       rw [← hkk]
       refine Nat.le_trans (preB_le _ _ _) (countB_mono _ _ _ _ fun q _ hq => ?_)
       simp only [Nat.zero_add] at hq ⊢
       cases hb : ((befA ops.toList []).getD q 0).testBit j with
       | false => rfl
       | true => have:=bef_listed hcl q j (hcl q hq) hb;rw [hun] at this;cases this
      rcases hqa.2 with ⟨h1,h2⟩ | hqa
      ·have h1:=beq_sound h1
       have h2:=beq_sound h2
       have hk1:=hpos j s hs
       have hμ:=hI.hp
       rw [show k = countB ls (fun i => decide (i < j)) 0 by omega,hm] at hμ
       simp at hμ;subst hμ
       obtain ⟨m',h3,h4⟩:=hitem
       rw [h3,quiet_same hldq h3 h4]
      ·have:=heapsOk_spec heaps 0 hqa _ μ1 hI.hp (by omega) (by omega)
       unfold sameAt at this
       split at this
       ·rename_i v m' h3
        simp only [Bool.and_eq_true] at this
        rw [h3,quiet_same hldq h3 (beq_sound this.1),eqV_sound _ _ _ this.2]
       ·simp at this
     rw [hop] at hrel
     obtain ⟨ι2,w2,hr,hS2,hx2,hl2,hb2⟩:=hrel
     obtain ⟨ι3,hx3,hx13,hn3,h3z,h3w⟩:=hpatch ι2 μ1 (Nat.le_refl _) hx2
     have hS3:=hS2.ext hx3 h3z h3w
     have hnear : ∀ (i : Nat) (s' : Step) (n : Nat),steps[i]? = some s' → listed.getD i false = true → ls[i]? = some true → k ≤ s'.k → s'.v = .pointer (some ⟨n,0,none⟩) → ι3.loc n = ι1.loc n:=by
      intro i s' n hs' hli hl hk' hv'
      obtain ⟨n',zs,μa,μc,hv2,_,_,_,_,h5⟩:=hI.early i s' hs' hli hl hk'
      rw [hv'] at hv2
      simp only [Value.pointer.injEq,Option.some.injEq,Addr.mk.injEq,and_true] at hv2
      subst hv2
      exact hn3 n h5.ge
     have hfin:=hnext k ι3 μ1 w2 f2 hpre (hstill ι3 w2 (hbackS _ _ _ hS3) hx13 hnear (fun n zs he hl => he.keep hpr' hpf' hS3 hl he.ge) (by rw [hlj,hldq]) hb2)
     rw [conc_ext hx3 _ hb2] at hfin
     unfold Oper.wp
     rcases hr with hr | ⟨hr,hv⟩
     ·rw [hr];exact hfin
     ·rw [hr];rw [hv,conc_undef] at hfin;exact hfin
    ·rw [hldq] at hl1;cases hl1
   | true =>
    have hkj : k = s.k:=by
     rw [← hkk,hpos j s hs]
     have:=preB_at ls (fun i => listed.getD i false) 0 j (by rw [hlj,hldq]) (by simpa using hun) (fun q hq hlq => by
      rw [Nat.zero_add]
      have hqs : q < ops.size:=by omega
      have hoq : ops[q]? = some ops[q]:=Array.getElem?_eq_getElem hqs
      have hsq : steps[q]? = some steps[q]:=List.getElem?_eq_getElem (by omega)
      have hlq2:=hlsj q _ _ hoq hsq
      rw [hlq] at hlq2
      have hlq3 : loud E ops[q].op = true:=by simp only [Option.some.injEq] at hlq2;have:=hlq2.symm;simp only [Bool.and_eq_true] at this;exact this.1
      exact bef_listed hcl j q hrd (hO.ord q j _ _ hoq ho hlq3 hldq hflo hq))
     simpa using this
    have hmm : m = μ1:=by
     have hμ:=hI.hp
     rw [hkj,hpos j s hs,hm] at hμ
     simpa using hμ
    subst hmm
    have hbits:=hopnd (.inl ⟨hflo,hldq⟩)
    have hrel:=op_rel (ng:=E.ng) hE hS' o a.eval s.fr.ev hbits
    rcases hitem with ⟨hl1,_⟩ | ⟨_,μ2,hμ2,hitem⟩
    ·rw [hldq] at hl1;cases hl1
    ·have hμ2' : heaps[k + 1]? = some μ2:=by rw [hkj,hpos j s hs];exact hμ2
     -- behind it
     have hgo : ∀ (ι2 : Ren) (w2 : World),Sim pr' w E.ng ι2 μ2 w2 → Ext m.next ι1 ι2 → m.next ≤ μ2.next → Bd μ2.next s.v → wpAny P .any ops Q fuel (listed.setIfInBounds j true) (a.put o.dst (conc ι2 s.v)) w2:=by
      intro ι2 w2 hS2 hx2 hl2 hb2
      obtain ⟨ι3,hx3,hx13,hn3,h3z,h3w⟩:=hpatch ι2 μ2 hl2 hx2
      have hS3:=hS2.ext hx3 h3z h3w
      have hge : ∀ (i : Nat) (s' : Step) (n : Nat),steps[i]? = some s' → listed.getD i false = true → ls[i]? = some true → k ≤ s'.k → s'.v = .pointer (some ⟨n,0,none⟩) → μ2.next ≤ n:=by
       intro i s' n hs' hli hl hk' hv'
       obtain ⟨n',zs,μa,μc,hv2,_,hμa,_,hnew,h5⟩:=hI.early i s' hs' hli hl hk'
       rw [hv'] at hv2
       simp only [Value.pointer.injEq,Option.some.injEq,Addr.mk.injEq,and_true] at hv2
       subst hv2
       have hne : s'.k ≠ k:=by
        intro e
        have h1:=hpos i s' hs'
        have h2:=hpos j s hs
        have hij : i ≠ j:=fun e => by subst e;rw [hun] at hli;cases hli
        rcases Nat.lt_or_ge i j with hlt' | hge'
        ·have:=countB_lt ls 0 i j hlt' hl;simp only [Nat.zero_add] at this;omega
        ·have:=countB_lt ls 0 j i (by omega) (by rw [hlj,hldq]);simp only [Nat.zero_add] at this;omega
       rw [(Hp.new_eq hnew).1]
       exact rises_spec hrise (k + 1) s'.k μ2 μa (by omega) hμ2' hμa
      have hnear : ∀ (i : Nat) (s' : Step) (n : Nat),steps[i]? = some s' → listed.getD i false = true → ls[i]? = some true → k ≤ s'.k → s'.v = .pointer (some ⟨n,0,none⟩) → ι3.loc n = ι1.loc n :=
       fun i s' n a b c d e => hn3 n (hge i s' n a b c d e)
      obtain ⟨t1,t2,t3⟩:=htmps ι3 hx13 hnear
      have back : ∀ i,i ≠ j → (fun i => (listed.setIfInBounds j true).getD i false) i = true → listed.getD i false = true:=fun i hij h => by simp only [hL' i hij] at h;exact h
      have hnej : ∀ (i : Nat) (s' : Step),steps[i]? = some s' → k + 1 ≤ s'.k → i ≠ j:=fun i s' hs' hk' e => by subst e;rw [hs] at hs';simp at hs';subst hs';omega
      have hk1 : k + 1 ≤ preB ls (fun i => (listed.setIfInBounds j true).getD i false) 0:=by
       by_cases hlt' : k + 1 ≤ preB ls (fun i => (listed.setIfInBounds j true).getD i false) 0
       ·exact hlt'
       ·exfalso
        have he : k = preB ls (fun i => (listed.setIfInBounds j true).getD i false) 0:=by omega
        have:=preB_stop ls (fun i => (listed.setIfInBounds j true).getD i false) 0 j (by rw [hlj,hldq]) (by simp only [Nat.zero_add];rw [← hpos j s hs,← hkj,he])
        rw [Nat.zero_add] at this
        rw [hLj] at this;cases this
      have hfin:=hnext (k + 1) ι3 μ2 w2 f2 hk1 ⟨hμ2',hbackS _ _ _ hS3,hI.ext.trans hx13 hI.ge0,Nat.le_trans hI.ge0 hl2,t1,t2,t3,hAfter hf2,by
        intro i s' hs' hl hlt'
        by_cases hij : i = j
        ·subst hij;exact hLj
        ·have hne : s'.k ≠ k:=by
          intro e
          have h1:=hpos i s' hs'
          have h2:=hpos j s hs
          rcases Nat.lt_or_ge i j with hlt2 | hge'
          ·have:=countB_lt ls 0 i j hlt2 hl;simp only [Nat.zero_add] at this;omega
          ·have:=countB_lt ls 0 j i (by omega) (by rw [hlj,hldq]);simp only [Nat.zero_add] at this;omega
         exact getD_set_true (hI.done i s' hs' hl (by omega)),by
        intro i s' hs' hli
        by_cases hij : i = j
        ·subst hij;rw [hs] at hs';simp at hs';subst hs';exact .inr hb2
        ·rcases hI.vals i s' hs' (back i hij hli) with ⟨h1,h2⟩ | h1
         ·left
          refine ⟨h1,?_⟩
          have hne : s'.k ≠ k:=by
           intro e
           have h1':=hpos i s' hs'
           have h2':=hpos j s hs
           rcases Nat.lt_or_ge i j with hlt2 | hge'
           ·have:=countB_lt ls 0 i j hlt2 h1;simp only [Nat.zero_add] at this;omega
           ·have:=countB_lt ls 0 j i (by omega) (by rw [hlj,hldq]);simp only [Nat.zero_add] at this;omega
          omega
         ·exact .inr (Bd.mono hl2 _ h1),by
        intro i s' hs' hli hl hk'
        have hli':=back i (hnej i s' hs' hk') hli
        obtain ⟨n,zs,μa,μc,hv,h1,h2,h3,h4,h5⟩:=hI.early i s' hs' hli' hl (by omega)
        exact ⟨n,zs,μa,μc,hv,h1,h2,h3,h4,h5.keep hpr' hpf' hS3 (hnear i s' n hs' hli' hl (by omega) hv) (hge i s' n hs' hli' hl (by omega) hv)⟩,by
        intro i i' s1 s2 n1 n2 hne' h1 h2 hl1 hl2 hq1 hq2 hk1 hk2 hv1 hv2
        have e1:=back i (hnej i s1 h1 hk1) hl1
        have e2:=back i' (hnej i' s2 h2 hk2) hl2
        rw [hnear i s1 n1 h1 e1 hq1 (by omega) hv1,hnear i' s2 n2 h2 e2 hq2 (by omega) hv2]
        exact hI.apart i i' s1 s2 n1 n2 hne' h1 h2 e1 e2 hq1 hq2 (by omega) (by omega) hv1 hv2⟩
      rw [conc_ext hx3 _ hb2] at hfin
      exact hfin
     unfold Oper.wp
     rcases hitem with hop | ⟨g,args,m',hop,hc⟩
     ·rw [hop] at hrel
      obtain ⟨ι2,w2,hr,hS2,hx2,hl2,hb2⟩:=hrel
      have:=hgo ι2 w2 hS2 hx2 hl2 hb2
      rcases hr with hr | ⟨hr,hv⟩
      ·rw [hr];exact this
      ·rw [hr];rw [hv,conc_undef] at this;exact this
     ·rw [hop] at hrel
      obtain ⟨hm',hr,hb⟩:=hrel
      subst hm'
      rw [hr]
      refine (hC pr' w g args _ _ _ hc ι1 w hS' hb).mono ?_
      rintro e' w' ⟨ι2,hx2,hl2,hS2,hend'⟩
      cases e' with
      | returned v' =>
       obtain ⟨rfl,hbv⟩:=hend'
       exact hgo ι2 w' hS2 hx2 hl2 hbv
      | panicked ch => exact hend'.elim
      | outgrown => exact hend'.elim
theorem drawnF_ok {callF : CallF} (hC : ∀ pr w0,CallsOk P pr w0 E.ng callF) {ops : Array Oper} {Q : Exit → Act → World → Prop} {ι : Ren} {μ : Hp} {w : World} {fr : Fr} {a : Act} {fr' : Fr} {μ' : Hp}
  (h : drawnF P E callF ops fr μ = some (fr',μ')) (hS : Sim pr w0 E.ng ι μ w) (hF : FrRel ι μ.next fr a) (hG : Goal pr w0 E.ng ι μ Q .normal fr' μ') :
  wpAny P .any ops Q ops.size (Array.replicate ops.size false) a w:=by
 unfold drawnF at h
 simp only at h
 cases hopen : openFromF E ops (befA ops.toList []) ops.toList 0 with
 | false => simp [hopen] at h
 | true =>
  rw [hopen,cond_true] at h
  cases hst : stepsA P E callF ops ops.toList fr μ 0 with
  | none => simp [hst] at h
  | some q =>
   obtain ⟨steps,heaps,fr1⟩:=q
   simp only [hst] at h
   cases hq : (rises heaps && quietOkF P E (befA ops.toList []) (loudOn E ops steps) heaps ops.toList steps ops.toList steps 0) with
   | false => simp [hq] at h
   | true =>
    rw [hq,cond_true,Option.map_eq_some_iff] at h
    simp only [Bool.and_eq_true] at hq
    obtain ⟨m,hlast,hm⟩:=h
    simp only [Prod.mk.injEq] at hm
    obtain ⟨rfl,rfl⟩:=hm
    have hP:=steps_pass _ _ _ _ _ _ _ hst
    have hnone : ∀ k,(Array.replicate ops.size false).getD k false = false:=fun k => by
     by_cases hk : k < ops.size <;> simp [Array.getD,hk]
    refine drawnF_go hE hC (openF_spec hopen) hF.lim hP hq.1 hq.2 hlast hG (fun t ht => (hF.tmp t ht).2) hF.bd ops.size _ a w (by simp) ?_ ?_ ⟨ι,fr,μ,?_,hS,Ext.refl _ _,Nat.le_refl _,hF.size,fun t ht => (hF.tmp t ht).1,hF.df,?_,?_,?_,?_,?_⟩
    ·rw [countB_none _ _ _ fun k => by rw [Nat.zero_add];exact hnone k];rfl
    ·intro i hi;simp only [hnone] at hi;simp at hi
    ·have h0 : preB (loudL E ops.toList steps) (fun i => (Array.replicate ops.size false).getD i false) 0 = 0:=by
      have h1:=preB_le (loudL E ops.toList steps) (fun i => (Array.replicate ops.size false).getD i false) 0
      rw [countB_none _ _ _ fun k => by rw [Nat.zero_add];exact hnone k] at h1
      omega
     rw [h0];exact hP.hd
    ·exact ⟨rfl,rfl,fun i o s t _ _ _ hl => by rw [hnone] at hl;simp at hl,fun _ _ => rfl⟩
    ·intro i s' _ _ hlt
     have h1:=preB_le (loudL E ops.toList steps) (fun i => (Array.replicate ops.size false).getD i false) 0
     rw [countB_none _ _ _ fun k => by rw [Nat.zero_add];exact hnone k] at h1
     omega
    ·intro i s' _ hl;simp only [hnone] at hl;cases hl
    ·intro i s' _ hl;simp only [hnone] at hl;cases hl
    ·intro i i' s1 s2 n1 n2 _ _ _ hl;simp only [hnone] at hl;cases hl
end
end Go.Abs
end
section
namespace Go.Abs
inductive AItem where
 | code (c : Code)
 | inBlock (id : Nat)
 | inLoop (body : Code)
 | inScope (body : Code)
 | reg (ops : Array Oper) (i : Nat) (rest : List Oper)
 | inRange (l : Nat)
 | endRange (l : Nat)
 | beginRound
structure AFr where
 fn : FuncId
 fr : Fr
 todo : List AItem
 mode : FrameMode
 kind : CallKind
 ro : Option Nat
structure Conf where
 top : AFr
 up : List AFr
 μ : Hp
structure Par where
 S : FuncId → Option SumO
 X : FuncId → Option (List Value → Hp → Option Value)
 run0 : CallF
abbrev Stp:=Option (Conf × List Ans × Prop)
def exitA (id : Nat) : List AItem → Option (List AItem)
 | .inBlock id' :: k => bif Nat.beq id' id then some k else exitA id k
 | _ :: k => exitA id k
 | [] => none
def gotoA (l : Nat) : List AItem → Option (List AItem)
 | .inScope body :: k => match findLabel body l with
  | some rest => some (.code rest :: .inScope body :: k)
  | none => gotoA l k
 | _ :: k => gotoA l k
 | [] => none
def AFr.finish (A : AFr) (v : Value) : Option AFr :=
 match A.todo with
 | .reg ops i (o :: rest) :: k => match A.fr.put o.dst v with
  | some fr' => some { A with fr:=fr',todo:=.reg ops (i + 1) rest :: k }
  | none => none
 | .inRange l :: k => some { A with todo:=.endRange l :: k }
 | _ => none
def AFr.raise (A : AFr) (ch : List PanicEntry) : AFr:={ A with mode:=raised A.mode ch }
def back (v : Value) (up : List AFr) (μ : Hp) (orc : List Ans) (O : Prop) : Stp :=
 match up with
 | c :: rest => match c.finish v with
  | some c' => some (⟨c',rest,μ⟩,orc,O)
  | none => none
 | [] => none
def enterA (E : Env) (f : FuncId) (args : List Value) (kind : CallKind) : Option AFr :=
 match E.fn f with
 | some fn => match fn.body,Fr.enter fn args with
  | some c,some fr => some { fn:=f,fr,todo:=[.code c],mode:=.run,kind,ro:=none }
  | _,_ => none
 | none => none
def callC (E : Env) (X : Par) (A : AFr) (up : List AFr) (f : FuncId) (args : List Value) (μ : Hp) (orc : List Ans) (O : Prop) : Stp :=
 match X.S f with
 | some g => match g args μ with
  | some (.returned v,μ',p) => back v (A :: up) μ' orc (O∧p)
  | some (.panicked ch,μ',p) => some (⟨A.raise ch,up,μ'⟩,orc,O∧p)
  | _ => none
 | none => match enterA E f args .normal with
  | some B => some (⟨B,A :: up,μ⟩,orc,O)
  | none => none
def leaveC (A : AFr) (up : List AFr) (μ : Hp) (jump : Option Code) (orc : List Ans) (O : Prop) : Stp :=
 match A.ro with
 | none => match jump with
  | none | some .ret => some (⟨{ A with mode:=.returning },up,μ⟩,orc,O)
  | _ => none
 | some l => match A.kind,μ.get l with
  | .normal,some (.loop L) => back (.bool jump.isNone) up (μ.put l (.loop { L with st:=if jump.isNone then .ready else .done,pend:=jump })) orc O
  | _,_ => none
def putAll : List Tmp → List Value → Nat → Tr Value → Option (Tr Value)
 | [],[],_,t => some t
 | p :: ps,v :: vs,sz,t => bif Nat.blt p sz then putAll ps vs sz (Tr.set 40 t p v) else none
 | _,_,_,_ => none
def methodA (E : Env) (t : TypeId) (name : String) : Option FuncId :=
 match E.info t with
 | some i => match i.methods.find? (·.name == name) with
  | some m => match m.path.toList,m.func,E.und t with
   | [],some (f,true),some (.pointer _) => some f
   | [],some (f,false),some (.pointer _) => none
   | [],some (f,false),some _ => some f
   | _,_,_ => none
  | none => none
 | none => none
inductive SR where
 | yld (l : Nat) (args : List Value)
 | rcv
 | call (f : FuncId) (args : List Value)
 | ext (v : Value)
def specialA (E : Env) (X : Par) (ev : Operand → Value) (o : Oper) (μ : Hp) : Option SR :=
 match o.op with
 | .call c => match c.callee with
  | .builtin .recover => some .rcv
  | .builtin _ => none
  | .value f => match ev f with
   | .chan (some l) => bif o.op.operands.toList.all (okOpnd E ev) then some (.yld l (c.args.toList.map ev)) else none
   | .func (.func g) first captured => match X.X g with
    | some x => bif o.op.operands.toList.all (okOpnd E ev) then (match x (first.toList ++ c.args.toList.map ev ++ captured.toList) μ with
     | some v => some (.ext v)
     | none => none) else none
    | none => none
   | _ => none
  | .invoke r name => match ev r with
   | .iface t v => match methodA E t name with
    | some f => bif o.op.operands.toList.all (okOpnd E ev) && (E.fn f).isSome then some (.call f (v :: c.args.toList.map ev)) else none
    | none => none
   | _ => none
 | _ => none
def roundC (A : AFr) (up : List AFr) (l : Nat) (args : List Value) (μ : Hp) (orc : List Ans) (O : Prop) : Stp :=
 match μ.get l with
 | some (.loop L) => match putAll L.params.toList args L.sz L.t with
  | some t => some (⟨{ fn:=L.fn,fr:={ t,sz:=L.sz,df:=[],d:=L.d },todo:=[.code L.assign,.beginRound,.code L.body],mode:=.run,kind:=.normal,ro:=some l },A :: up,μ⟩,orc,O)
  | none => none
 | _ => none
def recoverC (A : AFr) (up : List AFr) (μ : Hp) (orc : List Ans) (O : Prop) : Stp :=
 match A.ro,A.kind,up with
 | none,.deferred,c :: rest => match c.mode with
  | .panicking ({ v,recovered:=false,goexit:=false } :: older) => match A.finish v with
   | some A' => some (⟨A',{ c with mode:=.panicking ({ v,recovered:=true } :: older) } :: rest,μ⟩,orc,O)
   | none => none
  | .returning => match A.finish .nilIface with
   | some A' => some (⟨A',up,μ⟩,orc,O)
   | none => none
  | _ => none
 | _,_,_ => none
def isDefer : Op → Bool
 | .defer _ => true
 | _ => false
def opC (P : Program) (E : Env) (X : Par) (A : AFr) (up : List AFr) (μ : Hp) (ops : Array Oper) (i : Nat) (o : Oper) (rest : List Oper) (k : List AItem) (orc : List Ans) (O : Prop) : Stp :=
 bif A.ro.isSome && isDefer o.op then none else
 match knownA ops A.fr o,wantO ops A.fr o orc O with
 | false,_ => none
 | true,(false,orc1,O1) => match A.finish undef with
  | some A' => some (⟨A',up,μ⟩,orc1,O1)
  | none => none
 | true,(true,orc1,O1) => match specialA E X A.fr.ev o μ with
  | some (.yld l args) => roundC A up l args μ orc1 O1
  | some .rcv => recoverC A up μ orc1 O1
  | some (.call f args) => callC E X A up f args μ orc1 O1
  | some (.ext v) => match A.finish v with
   | some A' => some (⟨A',up,μ⟩,orc1,O1)
   | none => none
  | none => match pull orc1 with
   | (ans,orc2) => match opS P E A.fr.ev o μ ans with
    | some (.val v μ',q) => match A.finish v with
     | some A' => some (⟨A',up,μ'⟩,orc2,andO O1 q)
     | none => none
    | some (.dfr d μ',q) => match ({ A with fr:={ A.fr with df:=d :: A.fr.df } } : AFr).finish undef with
     | some A' => some (⟨A',up,μ'⟩,orc2,andO O1 q)
     | _ => none
    | some (.pan v μ',q) => some (⟨A.raise [{ v,recovered:=false }],up,μ'⟩,orc2,andO O1 q)
    | some (.call f args μ',q) => callC E X A up f args μ' orc2 (andO O1 q)
    | _ => none
def rangeC (E : Env) (A : AFr) (up : List AFr) (μ : Hp) (f : Operand) (params : Array Tmp) (assign body : Code) (k : List AItem) (orc : List Ans) (O : Prop) : Stp :=
 let r : Option (Nat × List Deferred × Hp):=match A.ro with
  | none => match μ.new (.dfd false) with
   | some (d,μ1) => some (d,{ target:=.collected d,args:=#[] } :: A.fr.df,μ1)
   | none => none
  | some l0 => match μ.get l0 with
   | some (.loop L0) => some (L0.df,A.fr.df,μ)
   | _ => none
 match r with
 | some (d,df',μ1) => match μ1.new (.loop { st:=.ready,pend:=none,fn:=A.fn,t:=A.fr.t,sz:=A.fr.sz,d:=A.fr.d,params,assign,body,df:=d }) with
  | some (l,μ2) => match okOpnd E A.fr.ev f,A.fr.ev f with
   | true,.func (.func g) first captured => match enterA E g (first.toList ++ [.chan (some l)] ++ captured.toList) .normal with
    | some B => some (⟨B,{ A with fr:={ A.fr with df:=df' },todo:=.inRange l :: k } :: up,μ2⟩,orc,O)
    | none => none
   | _,_ => none
  | none => none
 | none => none
def codeC (P : Program) (E : Env) (X : Par) (A : AFr) (up : List AFr) (μ : Hp) (k : List AItem) (orc : List Ans) (O : Prop) : Code → Stp
 | .skip | .label _ => some (⟨{ A with todo:=k },up,μ⟩,orc,O)
 | .seq a b => some (⟨{ A with todo:=.code a :: .code b :: k },up,μ⟩,orc,O)
 | .cond c a b => bif okOpnd E A.fr.ev c then (match A.fr.ev c with
  | .bool t => match pull orc with
   | (.b true,orc') => some (⟨{ A with todo:=.code a :: k },up,μ⟩,orc',O∧t = true)
   | (.b false,orc') => some (⟨{ A with todo:=.code b :: k },up,μ⟩,orc',O∧t = false)
   | (_,orc') => match t with
    | true => some (⟨{ A with todo:=.code a :: k },up,μ⟩,orc',O)
    | false => some (⟨{ A with todo:=.code b :: k },up,μ⟩,orc',O)
  | _ => none) else none
 | .block id a => some (⟨{ A with todo:=.code a :: .inBlock id :: k },up,μ⟩,orc,O)
 | .loop a => some (⟨{ A with todo:=.code a :: .inLoop a :: k },up,μ⟩,orc,O)
 | .scope a => some (⟨{ A with todo:=.code a :: .inScope a :: k },up,μ⟩,orc,O)
 | .exit id => match exitA id k with
  | some k' => some (⟨{ A with todo:=k' },up,μ⟩,orc,O)
  | none => leaveC A up μ (some (.exit id)) orc O
 | .goto l => match gotoA l k with
  | some k' => some (⟨{ A with todo:=k' },up,μ⟩,orc,O)
  | none => none
 | .ret => leaveC A up μ (some .ret) orc O
 | .region _ ops false => some (⟨{ A with todo:=.reg ops 0 ops.toList :: k },up,μ⟩,orc,O)
 | .region _ ops true => bif A.ro.isNone || ops.toList.all (fun o => !isDefer o.op) then (match drawnA P E X.run0 ops A.fr μ with
  | some (fr',μ') => some (⟨{ A with fr:=fr',todo:=k },up,μ'⟩,orc,O)
  | none => match drawnF P E X.run0 ops A.fr μ with
   | some (fr',μ') => some (⟨{ A with fr:=fr',todo:=k },up,μ'⟩,orc,O)
   | none => none) else none
 | .rangeFunc f params assign body => rangeC E A up μ f params assign body k orc O
 | .refuse _ => none
def runC (P : Program) (E : Env) (X : Par) (A : AFr) (up : List AFr) (μ : Hp) (orc : List Ans) (O : Prop) : Stp :=
 match A.todo with
 | [] => leaveC A up μ none orc O
 | .code c :: k => codeC P E X A up μ k orc O c
 | .inBlock _ :: k | .inScope _ :: k => some (⟨{ A with todo:=k },up,μ⟩,orc,O)
 | .inLoop body :: k => some (⟨{ A with todo:=.code body :: .inLoop body :: k },up,μ⟩,orc,O)
 | .reg _ _ [] :: k => some (⟨{ A with todo:=k },up,μ⟩,orc,O)
 | .reg ops i (o :: rest) :: k => opC P E X A up μ ops i o rest k orc O
 | .inRange _ :: _ => none
 | .beginRound :: k => match A.ro with
  | some l => match μ.get l with
   | some (.loop L) => match L.st with
    | .ready => some (⟨{ A with todo:=k },up,μ.put l (.loop { L with st:=.busy })⟩,orc,O)
    | _ => none
   | _ => none
  | none => none
 | .endRange l :: k => match μ.get l with
  | some (.loop L) => match L.st with
   | .busy => none
   | _ => some (⟨{ A with todo:=(L.pend.map AItem.code).toList ++ k },up,μ.put l (.loop { L with st:=.exhausted })⟩,orc,O)
  | _ => none
def resC (E : Env) (A : AFr) (μ : Hp) : Option Value :=
 match E.fn A.fn with
 | some fn => (resultsA E A.fr μ fn.results.toList).map packed
 | none => none
def unwindC (E : Env) (A : AFr) (up : List AFr) (μ : Hp) (orc : List Ans) (O : Prop) : Stp :=
 match A.fr.df with
 | d :: ds => match d.target with
  | .collected r => match μ.get r with
   | some (.dfd false) => some (⟨{ A with fr:={ A.fr with df:=ds } },up,μ.put r (.dfd true)⟩,orc,O)
   | _ => none
  | .fn (.func f) captured => match enterA E f (d.args.toList ++ captured.toList) .deferred with
   | some B => some (⟨B,{ A with fr:={ A.fr with df:=ds } } :: up,μ⟩,orc,O)
   | none => none
  | _ => none
 | [] => match A.mode,up with
  | .returning,c :: rest => match A.kind,resC E A μ with
   | .normal,some v => back v up μ orc O
   | .deferred,some _ => some (⟨{ c with mode:=settle c.mode },rest,μ⟩,orc,O)
   | _,_ => none
  | .panicking ch,c :: rest => some (⟨c.raise ch,rest,μ⟩,orc,O)
  | _,_ => none
def stepC (P : Program) (E : Env) (X : Par) (C : Conf) (orc : List Ans) (O : Prop) : Stp :=
 match C.top.mode with
 | .run => runC P E X C.top C.up C.μ orc O
 | _ => unwindC E C.top C.up C.μ orc O
def endC (E : Env) (f : FuncId) (C : Conf) : Option (Ending × Hp) :=
 match C.up,C.top.mode,C.top.fr.df,C.top.kind with
 | [],.returning,[],.normal => match Nat.beq C.top.fn f,resC E C.top C.μ with
  | true,some v => some (.returned v,C.μ)
  | _,_ => none
 | [],.panicking ch,[],.normal => bif Nat.beq C.top.fn f && (E.fn f).isSome then some (.panicked ch,C.μ) else none
 | _,_,_,_ => none
def goC (P : Program) (E : Env) (X : Par) (f : FuncId) : Nat → Conf → List Ans → Prop → Option (Ending × Hp × List Ans × Prop)
 | 0,_,_,_ => none
 | n + 1,C,orc,O => match endC E f C with
  | some (e,μ) => some (e,μ,orc,O)
  | none => match stepC P E X C orc O with
   | some (C',orc',O') => goC P E X f n C' orc' O'
   | none => none
def startC (E : Env) (f : FuncId) (args : List Value) (μ : Hp) : Option Conf :=
 match enterA E f args .normal with
 | some A => some ⟨A,[],μ⟩
 | none => none
def callW (P : Program) (E : Env) (X : Par) (n : Nat) (f : FuncId) (args : List Value) (μ : Hp) (orc : List Ans) : Option (Ending × Hp × List Ans × Prop) :=
 match startC E f args μ with
 | some C => goC P E X f n C orc True
 | none => none
abbrev Plain:=FuncId → Option (List Value → Hp → Option (Ending × Hp))
def ofPlain (S : Plain) : FuncId → Option SumO:=fun f => (S f).map fun g args μ => (g args μ).map fun r => (r.1,r.2,True)
def callN (P : Program) (E : Env) (S : Plain) (XX : FuncId → Option (List Value → Hp → Option Value)) : Nat → Nat → CallF
 | 0,_ => fun _ _ _ => none
 | d + 1,n => fun f args μ => match S f with
  | some g => g args μ
  | none => match callW P E ⟨ofPlain S,XX,callN P E S XX d n⟩ n f args μ [] with
   | some (e,μ',_,_) => some (e,μ')
   | none => none
end Go.Abs
end
section
namespace Go.Abs
def concI (ι : Ren) : AItem → Go.Item
 | .code c => .code c
 | .inBlock id => .inBlock id
 | .inLoop b => .inLoop b
 | .inScope b => .inScope b
 | .reg ops i rest => .inRegion ops (List.range' i rest.length)
 | .inRange l => .inRangeFunc (ι.loc l).1
 | .endRange l => .endRangeFunc (ι.loc l).1
 | .beginRound => .beginRound
def BdI (N : Nat) : AItem → Prop
 | .reg ops i rest => ops.toList.drop i = rest
 | .inRange l | .endRange l => l < N
 | _ => True
def concM (ι : Ren) : FrameMode → FrameMode
 | .panicking ch => .panicking (ch.map (concP ι))
 | m => m
def BdM (N : Nat) : FrameMode → Prop
 | .panicking ch => ∀ e ∈ ch,Bd N e.v
 | _ => True
structure FrameR (ι : Ren) (N : Nat) (A : AFr) (f : Frame) : Prop where
 fn : f.fn = A.fn
 fr : FrRel ι N A.fr { tmps:=f.tmps,defers:=f.defers }
 todo : f.todo = A.todo.map (concI ι)
 mode : f.mode = concM ι A.mode
 kind : f.kind = A.kind
 ro : f.roundOf = A.ro.map fun l => (ι.loc l).1
 bro : ∀ l,A.ro = some l → l < N
 btodo : ∀ i ∈ A.todo,BdI N i
 bmode : BdM N A.mode
inductive FramesR (ι : Ren) (N : Nat) : List AFr → List Frame → Prop
 | nil : FramesR ι N [] []
 | cons {A : AFr} {f : Frame} {As : List AFr} {fs : List Frame} (h : FrameR ι N A f) (t : FramesR ι N As fs) : FramesR ι N (A :: As) (f :: fs)
structure RelC (pr : Prot) (w0 : World) (ng : Nat) (ι : Ren) (C : Conf) (fr : Frame) (us : List Frame) (w : World) : Prop where
 sim : Sim pr w0 ng ι C.μ w
 top : FrameR ι C.μ.next C.top fr
 up : FramesR ι C.μ.next C.up us
theorem concI_ext {N : Nat} {ι ι' : Ren} (h : Ext N ι ι') {i : AItem} (hb : BdI N i) : concI ι' i = concI ι i:=by
 cases i with
 | inRange l => simp only [concI,h.loc l hb]
 | endRange l => simp only [concI,h.loc l hb]
 | _ => rfl
theorem BdI.mono {N M : Nat} (hl : N ≤ M) {i : AItem} (hb : BdI N i) : BdI M i:=by
 cases i with
 | inRange l => exact Nat.lt_of_lt_of_le hb hl
 | endRange l => exact Nat.lt_of_lt_of_le hb hl
 | reg ops i rest => exact hb
 | _ => trivial
theorem concM_ext {N : Nat} {ι ι' : Ren} (h : Ext N ι ι') {m : FrameMode} (hb : BdM N m) : concM ι' m = concM ι m:=by
 cases m with
 | panicking ch => simp only [concM];congr 1;exact List.map_congr_left fun e he => by simp [concP,conc_ext h _ (hb e he)]
 | _ => rfl
theorem BdM.mono {N M : Nat} (hl : N ≤ M) {m : FrameMode} (hb : BdM N m) : BdM M m:=by
 cases m with
 | panicking ch => exact fun e he => Bd.mono hl _ (hb e he)
 | _ => trivial
theorem FrameR.mono {ι ι' : Ren} {N N' : Nat} {A : AFr} {f : Frame} (h : FrameR ι N A f) (hE : Ext N ι ι') (hN : N ≤ N') : FrameR ι' N' A f where
 fn:=h.fn
 fr:=h.fr.mono hE hN
 todo:=by rw [h.todo];exact List.map_congr_left fun i hi => (concI_ext hE (h.btodo i hi)).symm
 mode:=by rw [h.mode,concM_ext hE h.bmode]
 kind:=h.kind
 ro:=by
  rw [h.ro]
  cases hr : A.ro with
  | none => rfl
  | some l => simp [hE.loc l (h.bro l hr)]
 bro l hl:=Nat.lt_of_lt_of_le (h.bro l hl) hN
 btodo i hi:=BdI.mono hN (h.btodo i hi)
 bmode:=BdM.mono hN h.bmode
theorem FrameR.monoAll {ι ι' : Ren} {N N' : Nat} (hE : Ext N ι ι') (hN : N ≤ N') : ∀ {As : List AFr} {fs : List Frame},FramesR ι N As fs → FramesR ι' N' As fs
 | _,_,.nil => .nil
 | _,_,.cons h t => .cons (h.mono hE hN) (FrameR.monoAll hE hN t)
theorem FrameR.runs {ι : Ren} {N : Nat} {A : AFr} {f : Frame} (h : FrameR ι N A f) (hm : A.mode = .run) : f = f.atR { tmps:=f.tmps,defers:=f.defers } (A.todo.map (concI ι)):=by
 have h1:=h.todo
 have h2:=h.mode
 rw [hm] at h2
 obtain ⟨fn,tmps,todo,defers,mode,kind,ro⟩:=f
 simp only at h1 h2
 subst h1;subst h2
 rfl
theorem FrameR.at {ι : Ren} {N : Nat} {A : AFr} {f : Frame} (h : FrameR ι N A f) {fr : Fr} {a : Act} (hF : FrRel ι N fr a) {todo : List AItem} (hb : ∀ i ∈ todo,BdI N i) (hm : A.mode = .run) :
  FrameR ι N { A with fr:=fr,todo:=todo } (f.atR a (todo.map (concI ι))) where
 fn:=h.fn
 fr:=hF
 todo:=rfl
 mode:=by simp [Frame.atR,hm,concM]
 kind:=h.kind
 ro:=h.ro
 bro:=h.bro
 btodo:=hb
 bmode:=h.bmode
theorem FrameR.to {ι : Ren} {N : Nat} {A : AFr} {f : Frame} (h : FrameR ι N A f) {todo : List AItem} (hb : ∀ i ∈ todo,BdI N i) (hm : A.mode = .run) :
  FrameR ι N { A with todo:=todo } (f.atR { tmps:=f.tmps,defers:=f.defers } (todo.map (concI ι))):=h.at h.fr hb hm
section
variable {P : Program} {E : Env} {pr : Prot} {w0 : World}
def Goes (P : Program) (pr : Prot) (w0 : World) (ng : Nat) (C C' : Conf) : Prop :=
 ∀ ι fr us cs w,RelC pr w0 ng ι C fr us w → ∃ ι' fr' us' w',Steps P (lone fr (us ++ cs) w) (lone fr' (us' ++ cs) w')∧Ext C.μ.next ι ι'∧C.μ.next ≤ C'.μ.next∧RelC pr w0 ng ι' C' fr' us' w'
theorem Goes.refl {ng : Nat} (C : Conf) : Goes P pr w0 ng C C:=fun ι fr us cs w h => ⟨ι,fr,us,w,Steps.refl P _,Ext.refl _ _,Nat.le_refl _,h⟩
theorem Goes.trans {ng : Nat} {A B C : Conf} (h1 : Goes P pr w0 ng A B) (h2 : Goes P pr w0 ng B C) : Goes P pr w0 ng A C:=by
 intro ι fr us cs w h
 obtain ⟨ι1,fr1,us1,w1,s1,e1,l1,r1⟩:=h1 ι fr us cs w h
 obtain ⟨ι2,fr2,us2,w2,s2,e2,l2,r2⟩:=h2 ι1 fr1 us1 cs w1 r1
 exact ⟨ι2,fr2,us2,w2,s1.trans s2,e1.trans e2 l1,Nat.le_trans l1 l2,r2⟩
theorem goes_to {ng : Nat} {A : AFr} {up : List AFr} {μ : Hp} {todo : List AItem} (hm : A.mode = .run) (hb : ∀ N,(∀ i ∈ A.todo,BdI N i) → ∀ i ∈ todo,BdI N i)
  (hs : ∀ (ι : Ren) (b : Frame) (a : Act) (cs : List Frame) (w : World),FrRel ι μ.next A.fr a → step P (lone (b.atR a (A.todo.map (concI ι))) cs w) = .next (lone (b.atR a (todo.map (concI ι))) cs w)) :
  Goes P pr w0 ng ⟨A,up,μ⟩ ⟨{ A with todo:=todo },up,μ⟩:=by
 intro ι fr us cs w h
 have ht:=h.top
 refine ⟨ι,fr.atR { tmps:=fr.tmps,defers:=fr.defers } (todo.map (concI ι)),us,w,?_,Ext.refl _ _,Nat.le_refl _,h.sim,ht.to (hb _ ht.btodo) hm,h.up⟩
 have:=hs ι fr { tmps:=fr.tmps,defers:=fr.defers } (us ++ cs) w ht.fr
 rw [← ht.runs hm] at this
 exact .one this
theorem exitA_ok (ι : Ren) (id : Nat) : ∀ (k : List AItem),exitTo id (k.map (concI ι)) = (exitA id k).map (List.map (concI ι))
 | [] => rfl
 | .inBlock id' :: k => by
  simp only [List.map_cons,concI,exitTo,exitA]
  by_cases h : id' = id
  ·subst h;simp
  ·simp [h,beq_no h,exitA_ok ι id k]
 | .code _ :: k | .inLoop _ :: k | .inScope _ :: k | .reg _ _ _ :: k | .inRange _ :: k | .endRange _ :: k | .beginRound :: k => by simp only [List.map_cons,concI,exitTo,exitA,exitA_ok ι id k]
theorem exitA_mem {id : Nat} : ∀ {k k' : List AItem},exitA id k = some k' → ∀ i ∈ k',i ∈ k
 | [],k',h => by simp [exitA] at h
 | .inBlock id' :: k,k',h => by
  simp only [exitA] at h
  cases hc : Nat.beq id' id with
  | true => rw [hc] at h;simp at h;subst h;exact fun i hi => List.mem_cons_of_mem _ hi
  | false => rw [hc] at h;exact fun i hi => List.mem_cons_of_mem _ (exitA_mem h i hi)
 | .code _ :: k,k',h | .inLoop _ :: k,k',h | .inScope _ :: k,k',h | .reg _ _ _ :: k,k',h | .inRange _ :: k,k',h | .endRange _ :: k,k',h | .beginRound :: k,k',h => by
  simp only [exitA] at h;exact fun i hi => List.mem_cons_of_mem _ (exitA_mem h i hi)
theorem gotoA_ok (ι : Ren) (l : Nat) : ∀ (k k' : List AItem),gotoA l k = some k' → gotoIn l (k.map (concI ι)) = some (k'.map (concI ι))
 | [],k',h => by simp [gotoA] at h
 | .inScope body :: k,k',h => by
  simp only [gotoA] at h
  simp only [List.map_cons,concI,gotoIn]
  cases hf : findLabel body l with
  | some rest => rw [hf] at h;simp at h;subst h;simp [concI]
  | none => rw [hf] at h;exact gotoA_ok ι l k k' h
 | .code _ :: k,k',h | .inLoop _ :: k,k',h | .inBlock _ :: k,k',h | .reg _ _ _ :: k,k',h | .inRange _ :: k,k',h | .endRange _ :: k,k',h | .beginRound :: k,k',h => by
  simp only [gotoA] at h;simp only [List.map_cons,concI,gotoIn];exact gotoA_ok ι l k k' h
theorem gotoA_bd {N l : Nat} : ∀ {k k' : List AItem},gotoA l k = some k' → (∀ i ∈ k,BdI N i) → ∀ i ∈ k',BdI N i
 | [],k',h,_ => by simp [gotoA] at h
 | .inScope body :: k,k',h,hb => by
  simp only [gotoA] at h
  cases hf : findLabel body l with
  | some rest =>
   rw [hf] at h;simp at h;subst h
   intro i hi
   rcases List.mem_cons.1 hi with rfl | hi
   ·trivial
   ·exact hb i hi
  | none => rw [hf] at h;exact gotoA_bd h fun i hi => hb i (List.mem_cons_of_mem _ hi)
 | .code _ :: k,k',h,hb | .inLoop _ :: k,k',h,hb | .inBlock _ :: k,k',h,hb | .reg _ _ _ :: k,k',h,hb | .inRange _ :: k,k',h,hb | .endRange _ :: k,k',h,hb | .beginRound :: k,k',h,hb => by
  simp only [gotoA] at h;exact gotoA_bd h fun i hi => hb i (List.mem_cons_of_mem _ hi)
theorem drop_cons {ops : Array Oper} {i : Nat} {o : Oper} {rest : List Oper} (h : ops.toList.drop i = o :: rest) : ops[i]? = some o∧ops.toList.drop (i + 1) = rest:=by
 constructor
 ·have h0 : (ops.toList.drop i)[0]? = some o:=by rw [h];rfl
  rw [List.getElem?_drop] at h0
  simpa using h0
 ·have:=congrArg (List.drop 1) h
  simpa [List.drop_drop] using this
theorem FrameR.finish {ι : Ren} {N : Nat} {A A' : AFr} {f : Frame} (h : FrameR ι N A f) {v : Value} (hf : A.finish v = some A') (hb : Bd N v) : FrameR ι N A' (f.finish (conc ι v)):=by
 unfold AFr.finish at hf
 have ht:=h.todo
 split at hf
 ·rename_i ops i o rest k hk
  split at hf
  ·rename_i fr' hp
   simp only [Option.some.injEq] at hf
   subst hf
   rw [hk] at ht
   have hreg : ops.toList.drop i = o :: rest:=h.btodo (.reg ops i (o :: rest)) (by rw [hk];simp)
   obtain ⟨ho,hrest⟩:=drop_cons hreg
   have hF:=h.fr.put hp hb
   simp only [List.map_cons,concI,List.length_cons,List.range'_succ] at ht
   have he : f.finish (conc ι v) = { f with tmps:=((({ tmps:=f.tmps,defers:=f.defers } : Act).put o.dst (conc ι v)).tmps),todo:=.inRegion ops (List.range' (i + 1) rest.length) :: k.map (concI ι) }:=by
    unfold Frame.finish
    rw [ht]
    simp only [ho,Option.bind_some]
    cases o.dst <;> rfl
   rw [he]
   refine ⟨h.fn,?_,rfl,h.mode,h.kind,h.ro,h.bro,?_,h.bmode⟩
   ·have e3 : ∀ (a : Act) (d : Option Tmp) (v : Value),({ tmps:=(a.put d v).tmps,defers:=a.defers } : Act) = a.put d v:=by
     intro a d v;cases d <;> rfl
    have e3:=e3 { tmps:=f.tmps,defers:=f.defers } o.dst (conc ι v)
    simp only
    rw [e3]
    exact hF
   ·intro j hj
    simp only at hj
    rcases List.mem_cons.1 hj with rfl | hj
    ·exact hrest
    ·exact h.btodo j (by rw [hk];exact List.mem_cons_of_mem _ hj)
  ·cases hf
 ·rename_i l k hk
  simp only [Option.some.injEq] at hf
  subst hf
  rw [hk] at ht
  simp only [List.map_cons,concI] at ht
  have he : f.finish (conc ι v) = { f with todo:=.endRangeFunc (ι.loc l).1 :: k.map (concI ι) }:=by unfold Frame.finish;rw [ht]
  rw [he]
  refine ⟨h.fn,h.fr,rfl,h.mode,h.kind,h.ro,h.bro,?_,h.bmode⟩
  intro j hj
  simp only at hj
  rcases List.mem_cons.1 hj with rfl | hj
  ·exact h.btodo (.inRange l) (by rw [hk];simp)
  ·exact h.btodo j (by rw [hk];exact List.mem_cons_of_mem _ hj)
 ·cases hf
theorem raised_conc (ι : Ren) (m : FrameMode) (ch : List PanicEntry) : raised (concM ι m) (ch.map (concP ι)) = concM ι (raised m ch):=by
 cases m <;> simp [raised,concM]
theorem BdM.raised {N : Nat} {m : FrameMode} {ch : List PanicEntry} (hm : BdM N m) (hc : ∀ e ∈ ch,Bd N e.v) : BdM N (Go.raised m ch):=by
 cases m with
 | panicking old =>
  simp only [Go.raised,BdM]
  intro e he
  rcases List.mem_append.1 he with he | he
  ·exact hc e he
  ·exact hm e he
 | _ => exact hc
theorem FrameR.raise {ι : Ren} {N : Nat} {A : AFr} {f : Frame} (h : FrameR ι N A f) {ch : List PanicEntry} (hb : ∀ e ∈ ch,Bd N e.v) : FrameR ι N (A.raise ch) (f.raise (ch.map (concP ι))):=by
 rw [Frame.raise_mode]
 refine ⟨h.fn,h.fr,h.todo,?_,h.kind,h.ro,h.bro,h.btodo,?_⟩
 ·simp only [AFr.raise,h.mode,raised_conc]
 ·exact h.bmode.raised hb
variable (hE : EnvOk P E)
include hE
theorem enterA_ok {ι : Ren} {N : Nat} {f : FuncId} {args : List Value} {kind : CallKind} {A : AFr} (h : enterA E f args kind = some A) (hb : ∀ x ∈ args,Bd N x) :
  FrameR ι N A (Frame.enter P f (args.map (conc ι)).toArray kind):=by
 unfold enterA at h
 split at h
 ·rename_i fn hf
  split at h
  ·rename_i c fr hc hen
   simp only [Option.some.injEq] at h
   subst h
   obtain ⟨h1,_,_⟩:=hE.fn f fn hf
   have he : Frame.enter P f (args.map (conc ι)).toArray kind = { fn:=f,tmps:=(args.map (conc ι)).toArray ++ Array.replicate (fn.ntmps - (args.map (conc ι)).toArray.size) undef,todo:=[.code c],defers:=[],mode:=.run,kind }:=by
    simp [Frame.enter,h1,hc]
   rw [he]
   exact ⟨rfl,enter_ok hen hb,rfl,rfl,rfl,rfl,by simp,by simp [BdI],trivial⟩
  ·cases h
 ·cases h
end
end Go.Abs
end
section
namespace Go.Abs
structure ParOk (P : Program) (E : Env) (pr : Prot) (w0 : World) (X : Par) : Prop where
 S : ∀ f g,X.S f = some g → SumOk P pr w0 E.ng f g
 ext : ∀ f g,X.X f = some g → ∀ args μ v,g args μ = some v → ∀ ι w,Sim pr w0 E.ng ι μ w → (∀ x ∈ args,Bd μ.next x) →
  (callFunc f (args.map (conc ι)).toArray).run P w = .ok (.value (conc ι v)) w∧Bd μ.next v
 run0 : ∀ pr w0,CallsOk P pr w0 E.ng X.run0
section steps
variable {P : Program} {b : Frame} {a : Act} {k : List Go.Item} {cs : List Frame} {w w' : World} {ops : Array Oper} {i : Nat} {rest : List Nat} {o : Oper}
 (ho : ops[i]? = some o) (hw : Region.wanted o (yielded ops a.tmps) = true)
include ho hw
theorem stepO_val {v : Value} (hr : (o.semAt b.roundOf a.eval).run P w = .ok (.value v) w') :
  step P (lone (b.atR a (.inRegion ops (i :: rest) :: k)) cs w) = .next (lone ((b.atR a (.inRegion ops (i :: rest) :: k)).finish v) cs w') :=
 step_lone_go (by rw [stepGR_op ho hw];simp [stepG.apply,hr])
theorem stepO_skip (hr : (o.semAt b.roundOf a.eval).run P w = .ok .skip w') :
  step P (lone (b.atR a (.inRegion ops (i :: rest) :: k)) cs w) = .next (lone ((b.atR a (.inRegion ops (i :: rest) :: k)).finish undef) cs w') :=
 step_lone_go (by rw [stepGR_op ho hw];simp [stepG.apply,hr])
theorem stepO_defer {d : Deferred} (hr : (o.semAt b.roundOf a.eval).run P w = .ok (.defer d) w') :
  step P (lone (b.atR a (.inRegion ops (i :: rest) :: k)) cs w) = .next (lone ((b.atR { a with defers:=d :: a.defers } (.inRegion ops (i :: rest) :: k)).finish undef) cs w') :=
 step_lone_go (by rw [stepGR_op ho hw];simp only [stepG.apply,Sem.runT_eq,hr,GStep.bare_after];rfl)
theorem stepO_enter {f : FuncId} {args : Array Value} (hr : (o.semAt b.roundOf a.eval).run P w = .ok (.enter f args) w') :
  step P (lone (b.atR a (.inRegion ops (i :: rest) :: k)) cs w) = .next (lone (Frame.enter P f args .normal) (b.atR a (.inRegion ops (i :: rest) :: k) :: cs) w') :=
 step_lone_go (by rw [stepGR_op ho hw];simp [stepG.apply,hr,Frame.atR])
theorem stepO_round {l : Nat} {f : FuncId} {tmps : Array Value} {as bd : Code} (hr : (o.semAt b.roundOf a.eval).run P w = .ok (.round l f tmps as bd) w') :
  step P (lone (b.atR a (.inRegion ops (i :: rest) :: k)) cs w) = .next (lone (Frame.round l f tmps as bd .normal) (b.atR a (.inRegion ops (i :: rest) :: k) :: cs) w') :=
 step_lone_go (by rw [stepGR_op ho hw];simp [stepG.apply,hr,Frame.atR])
theorem stepO_panic {v : Value} (hr : (o.semAt b.roundOf a.eval).run P w = .halt (.panic v) w') :
  step P (lone (b.atR a (.inRegion ops (i :: rest) :: k)) cs w) = .next (lone ((b.atR a (.inRegion ops (i :: rest) :: k)).raise [{ v,recovered:=false }]) cs w') :=
 step_lone_go (by rw [stepGR_op ho hw];simp [stepG.apply,hr])
theorem stepO_recover {v : Value} {cs' : List Frame} (hr : (o.semAt b.roundOf a.eval).run P w = .ok .recover w') (hb : b.roundOf = none) (ht : tryRecover (b.atR a (.inRegion ops (i :: rest) :: k)) cs = some (v,cs')) :
  step P (lone (b.atR a (.inRegion ops (i :: rest) :: k)) cs w) = .next (lone ((b.atR a (.inRegion ops (i :: rest) :: k)).finish v) cs' w') :=
 step_lone_go (by
  rw [stepGR_op ho hw]
  have hr':=hr
  rw [hb] at hr'
  simp only [Frame.atR,hb] at ht ⊢
  simp [stepG.apply,hr',ht])
theorem stepO_norecover (hr : (o.semAt b.roundOf a.eval).run P w = .ok .recover w') (hb : b.roundOf = none) (ht : tryRecover (b.atR a (.inRegion ops (i :: rest) :: k)) cs = none) :
  step P (lone (b.atR a (.inRegion ops (i :: rest) :: k)) cs w) = .next (lone ((b.atR a (.inRegion ops (i :: rest) :: k)).finish .nilIface) cs w') :=
 step_lone_go (by
  rw [stepGR_op ho hw]
  have hr':=hr
  rw [hb] at hr'
  simp only [Frame.atR,hb] at ht ⊢
  simp [stepG.apply,hr',ht])
end steps
theorem wpOps_steps {P : Program} {ops : Array Oper} {R : Act → World → Prop} : ∀ (l : List Nat) (a : Act) (w : World),wpOps P ops (fun e a w => e = .normal∧R a w) l a w →
  ∀ (b : Frame) (k : List Go.Item) (cs : List Frame),(b.roundOf = none ∨ ∀ o ∈ ops.toList,isDefer o.op = false) →
   ∃ a' w',R a' w'∧Steps P (lone (b.atR a (.inRegion ops l :: k)) cs w) (lone (b.atR a' k) cs w'):=by
 intro l
 induction l with
 | nil => intro a w h b k cs _;exact ⟨a,w,h.2,.one stepR_region_end⟩
 | cons i rest ih =>
  intro a w h b k cs hb
  simp only [wpOps] at h
  cases ho : ops[i]? with
  | none =>
   simp only [ho] at h
   obtain ⟨a',w',hR,hs⟩:=ih a w h b k cs hb
   have h1:=stepR_op_skip (P:=P) (b:=b) (a:=a) (k:=k) (cs:=cs) (w:=w) (ops:=ops) (i:=i) (rest:=rest) (by simp [ho])
   simp only [ho,Option.bind_none,Act.put] at h1
   exact ⟨a',w',hR,.head h1 hs⟩
  | some o =>
   simp only [ho] at h
   have hsem : o.semAt b.roundOf a.eval = execOp a.eval o:=by
    rcases hb with hb | hb
    ·rw [hb];rfl
    ·refine Oper.semAt_eq _ _ _ fun c hc => ?_
     have:=hb o (Array.mem_toList_iff.2 (Array.mem_of_getElem? ho))
     rw [hc] at this;cases this
   by_cases hw : Region.wanted o (yielded ops a.tmps) = true
   ·simp only [hw,if_true] at h
    rcases h with h | ⟨_,a0,w0,h0,_⟩
    ·unfold Oper.wp at h
     have hfin : ∀ v,(b.atR a (.inRegion ops (i :: rest) :: k)).finish v = b.atR (a.put o.dst v) (.inRegion ops rest :: k):=by
      intro v;rw [Frame.finish_atR,ho];rfl
     generalize hr : (execOp a.eval o).run P w = r at h
     rw [← hsem] at hr
     simp only [Oper.upon] at h
     split at h
     ·rename_i v w'
      obtain ⟨a',w'',hR,hs⟩:=ih _ _ h b k cs hb
      have h1:=stepO_val (P:=P) (b:=b) (k:=k) (cs:=cs) (rest:=rest) ho hw hr
      rw [hfin] at h1
      exact ⟨a',w'',hR,.head h1 hs⟩
     ·rename_i w'
      obtain ⟨a',w'',hR,hs⟩:=ih _ _ h b k cs hb
      have h1:=stepO_skip (P:=P) (b:=b) (k:=k) (cs:=cs) (rest:=rest) ho hw hr
      rw [hfin] at h1
      exact ⟨a',w'',hR,.head h1 hs⟩
     ·rename_i d w'
      obtain ⟨a',w'',hR,hs⟩:=ih _ _ h b k cs hb
      have h1:=stepO_defer (P:=P) (b:=b) (k:=k) (cs:=cs) (rest:=rest) ho hw hr
      have h2:=Frame.finish_atR b { a with defers:=d :: a.defers } ops i rest k undef
      rw [ho] at h2
      rw [h2] at h1
      exact ⟨a',w'',hR,.head h1 hs⟩
     ·rename_i f args w'
      obtain ⟨e,w'',fr,hR,hsteps,hfn,hleave⟩:=h (b.atR a (.inRegion ops (i :: rest) :: k) :: cs)
      have h1:=stepO_enter (P:=P) (b:=b) (k:=k) (cs:=cs) (rest:=rest) ho hw hr
      cases e with
      | returned v =>
       obtain ⟨a',w3,hR',hs⟩:=ih _ _ hR b k cs hb
       have h2:=step_leave_returned (c:=b.atR a (.inRegion ops (i :: rest) :: k)) (cs:=cs) hleave
       rw [hfin] at h2
       exact ⟨a',w3,hR',.head h1 (hsteps.trans (.head h2 hs))⟩
      | panicked ch => exact absurd hR.1 (by simp)
      | outgrown => obtain ⟨a0,w0,hq⟩:=hR;exact absurd hq.1 (by simp)
     ·rename_i row args w'
      obtain ⟨v,w'',hR,hsteps⟩:=h (b.atR a (.inRegion ops (i :: rest) :: k)) cs
      obtain ⟨a',w3,hR',hs⟩:=ih _ _ hR b k cs hb
      have h1 : step P (lone (b.atR a (.inRegion ops (i :: rest) :: k)) cs w) = .next (lone (Frame.ofRow P row args .normal) (b.atR a (.inRegion ops (i :: rest) :: k) :: cs) w') :=
       step_lone_go (by rw [stepGR_op ho hw];simp [stepG.apply,hr,Frame.atR])
      rw [hfin] at hsteps
      exact ⟨a',w3,hR',.head h1 (hsteps.trans hs)⟩
     ·exact absurd h.1 (by simp)
     ·exact h.elim
    ·exact absurd h0 (by simp)
   ·simp only [hw,if_false,Bool.false_eq_true] at h
    obtain ⟨a',w',hR,hs⟩:=ih _ _ h b k cs hb
    have h1:=stepR_op_skip (P:=P) (b:=b) (a:=a) (k:=k) (cs:=cs) (w:=w) (ops:=ops) (i:=i) (rest:=rest) (by simp [ho];simpa using hw)
    simp only [ho,Option.bind_some] at h1
    exact ⟨a',w',hR,.head h1 hs⟩
section
variable {P : Program} {E : Env} {pr : Prot} {w0 : World}
def Comes' (P : Program) (pr : Prot) (w0 : World) (ng : Nat) (ι : Ren) (N : Nat) (m : Machine) (cs : List Frame) (C' : Conf) : Prop :=
 ∃ ι' fr' us' w',Steps P m (lone fr' (us' ++ cs) w')∧Ext N ι ι'∧N ≤ C'.μ.next∧RelC pr w0 ng ι' C' fr' us' w'
theorem back_ok {ng : Nat} {v : Value} {up : List AFr} {μ : Hp} {orc : List Ans} {O : Prop} {C' : Conf} {orc' : List Ans} {O' : Prop} (h : back v up μ orc O = some (C',orc',O')) :
  O' = O∧orc' = orc∧C'.μ = μ∧∀ {ι : Ren} {us : List Frame} {w : World},Sim pr w0 ng ι μ w → FramesR ι μ.next up us → Bd μ.next v → ∃ u us',us = u :: us'∧RelC pr w0 ng ι C' (u.finish (conc ι v)) us' w:=by
 unfold back at h
 split at h
 ·rename_i c rest
  split at h
  ·rename_i c' hc
   simp only [Option.some.injEq,Prod.mk.injEq] at h
   obtain ⟨rfl,rfl,rfl⟩:=h
   refine ⟨rfl,rfl,rfl,fun hS hu hb => ?_⟩
   cases hu with
   | cons hh ht => exact ⟨_,_,rfl,hS,hh.finish hc hb,ht⟩
  ·cases h
 ·cases h
theorem leaving_ok {fr : Frame} {w : World} {e : Ending} (he : fr.leaving P w e) (c : Frame) (cs : List Frame) : match e with
  | .returned v => step P (lone fr (c :: cs) w) = .next (lone (c.finish v) cs w)
  | .panicked ch => step P (lone fr (c :: cs) w) = .next (lone (c.raise ch) cs w)
  | .outgrown => True:=by
 cases e with
 | returned v => exact step_leave_returned he
 | panicked ch => exact step_leave_panicked he
 | outgrown => trivial
variable (hE : EnvOk P E)
include hE
theorem callC_ok {X : Par} (hX : ParOk P E pr w0 X) {A : AFr} {up : List AFr} {f : FuncId} {args : List Value} {μ : Hp} {orc : List Ans} {O : Prop} {C' : Conf} {orc' : List Ans} {O' : Prop}
  (h : callC E X A up f args μ orc O = some (C',orc',O')) : (O' → O)∧(O' → ∀ {ι : Ren} {F : Frame} {us cs : List Frame} {w : World} {m : Machine},Sim pr w0 E.ng ι μ w → FrameR ι μ.next A F → FramesR ι μ.next up us → (∀ x ∈ args,Bd μ.next x) →
   step P m = .next (lone (Frame.enter P f (args.map (conc ι)).toArray .normal) (F :: (us ++ cs)) w) → Comes' P pr w0 E.ng ι μ.next m cs C'):=by
 unfold callC at h
 split at h
 ·rename_i g hg
  split at h
  ·rename_i v μ' p hr
   obtain ⟨rfl,rfl,hμ,hback⟩:=back_ok (pr:=pr) (w0:=w0) (ng:=E.ng) h
   refine ⟨fun h => h.1,fun hO {ι F us cs w m} hS hF hu hb hm => ?_⟩
   obtain ⟨e,w',fr,⟨ι',hx,hl,hS',hend⟩,hs,hfn,hle⟩:=hX.S f g hg args μ _ μ' p hr hO.2 ι w hS hb (F :: (us ++ cs))
   cases e with
   | returned v' =>
    obtain ⟨rfl,hbv⟩:=hend
    obtain ⟨u,us',hus,hrel⟩:=hback hS' (.cons (hF.mono hx hl) (FrameR.monoAll hx hl hu)) hbv
    simp only [List.cons.injEq] at hus
    obtain ⟨rfl,rfl⟩:=hus
    refine ⟨ι',_,us,w',.head hm (hs.trans (.one (leaving_ok hle F (us ++ cs)))),hx,by rw [hμ];exact hl,hrel⟩
   | _ => exact hend.elim
  ·rename_i ch μ' p hr
   simp only [Option.some.injEq,Prod.mk.injEq] at h
   obtain ⟨rfl,rfl,rfl⟩:=h
   refine ⟨fun h => h.1,fun hO {ι F us cs w m} hS hF hu hb hm => ?_⟩
   obtain ⟨e,w',fr,⟨ι',hx,hl,hS',hend⟩,hs,hfn,hle⟩:=hX.S f g hg args μ _ μ' p hr hO.2 ι w hS hb (F :: (us ++ cs))
   cases e with
   | panicked ch' =>
    obtain ⟨rfl,hbv⟩:=hend
    exact ⟨ι',_,us,w',.head hm (hs.trans (.one (leaving_ok hle F (us ++ cs)))),hx,hl,hS',(hF.mono hx hl).raise hbv,FrameR.monoAll hx hl hu⟩
   | _ => exact hend.elim
  ·cases h
 ·split at h
  ·rename_i B hB
   simp only [Option.some.injEq,Prod.mk.injEq] at h
   obtain ⟨rfl,rfl,rfl⟩:=h
   refine ⟨id,fun hO {ι F us cs w m} hS hF hu hb hm => ?_⟩
   exact ⟨ι,_,F :: us,w,.one hm,Ext.refl _ _,Nat.le_refl _,hS,enterA_ok hE hB hb,.cons hF hu⟩
  ·cases h
theorem Sim.reloop {ng : Nat} {ι : Ren} {μ : Hp} {w : World} (hS : Sim pr w0 ng ι μ w) {l : Nat} {L : ALoop} (hg : μ.get l = some (.loop L)) (st : LoopState) (pend : Option Code) :
  ∃ r : Loop,w.heap[(ι.loc l).1]? = some (.loop r)∧r.state = L.st∧r.pending = L.pend∧Sim pr w0 ng ι (μ.put l (.loop { L with st,pend })) (w.putObj (ι.loc l).1 (.loop { r with state:=st,pending:=pend })):=by
 obtain ⟨h0,h1,h2,tmps,h3,h4,h5⟩:=hS.obj l _ hg
 refine ⟨_,h3,rfl,rfl,hS.turn hg rfl rfl rfl rfl (by simp) (fun k hk => World.putObj_heap_other hk) ⟨h0,h1,h2,tmps,World.putObj_heap_same (hS.blk l _ hg rfl),h4,h5⟩⟩
theorem leaveC_ok {A : AFr} {up : List AFr} {μ : Hp} {jump : Option Code} {orc : List Ans} {O : Prop} {C' : Conf} {orc' : List Ans} {O' : Prop} (hm : A.mode = .run)
  (hj : (jump = none∧A.todo = []) ∨ (jump = some .ret∧∃ k,A.todo = .code .ret :: k) ∨ (∃ id k,jump = some (.exit id)∧A.todo = .code (.exit id) :: k∧exitA id k = none))
  (h : leaveC A up μ jump orc O = some (C',orc',O')) : O' = O∧orc' = orc∧Goes P pr w0 E.ng ⟨A,up,μ⟩ C':=by
 unfold leaveC at h
 split at h
 ·rename_i hro
  have fin : some ((⟨{ A with mode:=.returning },up,μ⟩ : Conf),orc,O) = some (C',orc',O') → (jump = none ∨ jump = some .ret) → O' = O∧orc' = orc∧Goes P pr w0 E.ng ⟨A,up,μ⟩ C':=by
   intro h hj'
   simp only [Option.some.injEq,Prod.mk.injEq] at h
   obtain ⟨rfl,rfl,rfl⟩:=h
   refine ⟨rfl,rfl,fun ι fr us cs w hR => ?_⟩
   have ht:=hR.top
   have hfr:=ht.runs hm
   have hrn : fr.roundOf = none:=by rw [ht.ro];simp only [hro,Option.map_none]
   have hgood : FrameR ι μ.next { A with mode:=.returning } { fr with mode:=.returning }:=⟨ht.fn,ht.fr,ht.todo,rfl,ht.kind,ht.ro,ht.bro,ht.btodo,trivial⟩
   have hstep : step P (lone fr (us ++ cs) w) = .next (lone { fr with mode:=.returning } (us ++ cs) w):=by
    rcases hj with ⟨rfl,htd⟩ | ⟨rfl,k,htd⟩ | ⟨id,k,rfl,_,_⟩
    ·rw [htd] at hfr
     have:=stepR_end (P:=P) (b:=fr) (a:={ tmps:=fr.tmps,defers:=fr.defers }) (cs:=us ++ cs) (w:=w) hrn
     simp only [List.map_nil] at hfr
     rw [← hfr] at this;exact this
    ·rw [htd] at hfr
     have:=stepR_ret (P:=P) (b:=fr) (a:={ tmps:=fr.tmps,defers:=fr.defers }) (k:=k.map (concI ι)) (cs:=us ++ cs) (w:=w) hrn
     simp only [List.map_cons,concI] at hfr
     rw [← hfr] at this;exact this
    ·rcases hj' with hj' | hj' <;> cases hj'
   exact ⟨ι,_,us,w,.one hstep,Ext.refl _ _,Nat.le_refl _,hR.sim,hgood,hR.up⟩
  split at h
  ·exact fin h (.inl rfl)
  ·exact fin h (.inr rfl)
  ·cases h
 ·rename_i l hro
  split at h
  ·rename_i L hk hg
   obtain ⟨rfl,rfl,hμ,hback⟩:=back_ok (pr:=pr) (w0:=w0) (ng:=E.ng) h
   refine ⟨rfl,rfl,fun ι fr us cs w hR => ?_⟩
   have ht:=hR.top
   have hfr:=ht.runs hm
   have hrn : fr.roundOf = some (ι.loc l).1:=by rw [ht.ro];simp only [hro,Option.map_some]
   have hkn : fr.kind = .normal:=by rw [ht.kind];exact hk
   obtain ⟨r,hr,hst,hpe,hS'⟩:=Sim.reloop hE hR.sim hg (if jump.isNone then .ready else .done) jump
   have hrun:=run_endRound (P:=P) jump hr
   obtain ⟨u,us',hus,hrel⟩:=hback hS' hR.up (by simp)
   have hus : us = u :: us':=hus
   subst hus
   have hstep : step P (lone fr (u :: (us' ++ cs)) w) = .next (lone (u.finish (.bool jump.isNone)) (us' ++ cs) (w.putObj (ι.loc l).1 (.loop { r with state:=if jump.isNone then .ready else .done,pending:=jump }))):=by
    rcases hj with ⟨rfl,htd⟩ | ⟨rfl,k,htd⟩ | ⟨id,k,rfl,htd,hex⟩
    ·rw [htd] at hfr
     have:=stepR_round_end (P:=P) (b:=fr) (a:={ tmps:=fr.tmps,defers:=fr.defers }) (c:=u) (cs:=us' ++ cs) (w:=w) hrn hkn hrun
     simp only [List.map_nil] at hfr
     rw [← hfr] at this;exact this
    ·rw [htd] at hfr
     have:=stepR_round_ret (P:=P) (b:=fr) (a:={ tmps:=fr.tmps,defers:=fr.defers }) (k:=k.map (concI ι)) (c:=u) (cs:=us' ++ cs) (w:=w) hrn hkn hrun
     simp only [List.map_cons,concI] at hfr
     rw [← hfr] at this;exact this
    ·rw [htd] at hfr
     have:=stepR_round_exit (P:=P) (b:=fr) (a:={ tmps:=fr.tmps,defers:=fr.defers }) (k:=k.map (concI ι)) (c:=u) (cs:=us' ++ cs) (w:=w) hrn hkn (by rw [exitA_ok,hex];rfl) hrun
     simp only [List.map_cons,concI] at hfr
     rw [← hfr] at this;exact this
   rw [conc_bool] at hrel
   exact ⟨ι,_,us',_,.one hstep,Ext.refl _ _,by rw [hμ];exact Nat.le_refl _,hrel⟩
  ·cases h
end
end Go.Abs
end
section
namespace Go.Abs
section
variable {P : Program} {E : Env} {pr : Prot} {w0 : World}
theorem putAll_ok {ι : Ren} {N : Nat} : ∀ {ps : List Tmp} {vs : List Value} {sz : Nat} {t t' : Tr Value} {d : Value} {tmps : Array Value},putAll ps vs sz t = some t' → sz < limit → tmps.size = sz →
  (∀ k,notP ((t.get k).getD d) = true → tmps.getD k undef = conc ι ((t.get k).getD d)∧Bd N ((t.get k).getD d)) → (∀ x ∈ vs,Bd N x) →
  vs.length = ps.length∧((ps.zip (vs.map (conc ι))).foldl (fun tmps (p : Tmp × Value) => tmps.setIfInBounds p.1 p.2) tmps).size = sz ∧
  ∀ k,notP ((t'.get k).getD d) = true → ((ps.zip (vs.map (conc ι))).foldl (fun tmps (p : Tmp × Value) => tmps.setIfInBounds p.1 p.2) tmps).getD k undef = conc ι ((t'.get k).getD d)∧Bd N ((t'.get k).getD d)
 | [],[],sz,t,t',d,tmps,h,hl,hs,ht,hb => by
  simp only [putAll,Option.some.injEq] at h
  subst h
  exact ⟨rfl,hs,ht⟩
 | p :: ps,v :: vs,sz,t,t',d,tmps,h,hl,hs,ht,hb => by
  simp only [putAll] at h
  cases hc : Nat.blt p sz with
  | false => rw [hc] at h;cases h
  | true =>
   rw [hc,cond_true] at h
   have hp : p < sz:=by simpa [Nat.blt_eq] using hc
   have:=putAll_ok (ι:=ι) (N:=N) (d:=d) (tmps:=tmps.setIfInBounds p (conc ι v)) h hl (by simpa using hs) (by
    intro k hk
    by_cases e : k = p
    ·subst e
     rw [Tr.get_set_same 40 _ _ _ (by have : k < limit:=Nat.lt_trans hp hl;unfold limit at this;omega)] at hk ⊢
     simp only [Option.getD_some]
     exact ⟨by simp [Array.getD,hs,hp],hb v (by simp)⟩
    ·rw [Tr.get_set_other 40 _ _ _ _ (Ne.symm e)] at hk ⊢
     obtain ⟨h1,h2⟩:=ht k hk
     refine ⟨?_,h2⟩
     rw [← h1]
     simp [Array.getD_eq_getD_getElem?,Array.getElem?_setIfInBounds_ne (Ne.symm e)]) (fun x hx => hb x (by simp [hx]))
   obtain ⟨g1,g2,g3⟩:=this
   exact ⟨by simp [g1],g2,g3⟩
 | [],_ :: _,_,_,_,_,_,h,_,_,_,_ => by simp [putAll] at h
 | _ :: _,[],_,_,_,_,_,h,_,_,_,_ => by simp [putAll] at h
theorem run_info_local {t : TypeId} {i : TypeInfo} (h : P.info? t = some i) (w : World) : (typeInfo t).run P w = .ok i w:=by
 simp [typeInfo,program,Sem.run_bind,Sem.run,h]
variable (hE : EnvOk P E)
include hE
theorem methodA_ok {t : TypeId} {name : String} {f : FuncId} (h : methodA E t name = some f) (n : Nat) (v : Value) (w : World) : (method (n + 1) t v name).run P w = .ok (f,v) w:=by
 unfold methodA at h
 cases hi : E.info t with
 | none => rw [hi] at h;cases h
 | some i =>
  rw [hi] at h
  simp only at h
  cases hm : i.methods.find? (·.name == name) with
  | none => rw [hm] at h;cases h
  | some m =>
   rw [hm] at h
   simp only at h
   have hti:=hE.info t i hi
   cases hp : m.path.toList with
   | cons s ss => rw [hp] at h;simp at h
   | nil =>
    rw [hp] at h
    cases hf : m.func with
    | none => rw [hf] at h;simp at h
    | some q =>
     obtain ⟨g,b⟩:=q
     rw [hf] at h
     cases hu : E.und t with
     | none => rw [hu] at h;cases b <;> simp at h
     | some d =>
      rw [hu] at h
      have hu':=hE.und hu
      have hti':=run_info_local hti w
      have hun:=run_underlying hu' w
      have key : g = f ∧ (receiverAt t (Place.val v) b (if m.path.isEmpty then some ((name.splitOn ".").getLastD name) else none)).run P w = .ok v w := by
       cases b <;> cases d <;> simp at h <;> first
        | exact ⟨h,by simp [receiverAt,Sem.run_bind,hun,Place.get]⟩
      obtain ⟨rfl,key⟩:=key
      simp only [method,Sem.run_bind,hti',Result.andThen_ok,hm,hp,follow,Sem.run_pure,hf,key]
theorem callFunc_enter {f : FuncId} {fn : Func} (h : E.fn f = some fn) (as : Array Value) (w : World) : (callFunc f as).run P w = .ok (.enter f as) w:=by
 obtain ⟨h1,h2,h3⟩:=hE.fn f fn h
 simp only [callFunc,Sem.run_bind,run_program,Result.andThen_ok,h1,h3,Bool.false_eq_true,if_false]
 rw [if_neg (by cases hbb : fn.body <;> simp_all)]
 simp only [Sem.run_pure]
theorem opC_ok {X : Par} (hX : ParOk P E pr w0 X) {A : AFr} {up : List AFr} {μ : Hp} {ops : Array Oper} {i : Nat} {o : Oper} {rest : List Oper} {k : List AItem} {orc : List Ans} {O : Prop} {C' : Conf} {orc' : List Ans} {O' : Prop}
  (hm : A.mode = .run) (htd : A.todo = .reg ops i (o :: rest) :: k) (h : opC P E X A up μ ops i o rest k orc O = some (C',orc',O')) : (O' → O)∧(O' → Goes P pr w0 E.ng ⟨A,up,μ⟩ C'):=by
 unfold opC at h
 cases hdf : (A.ro.isSome && isDefer o.op) with
 | true => rw [hdf] at h;cases h
 | false =>
 rw [hdf,cond_false] at h
 -- what each machine of this configuration looks like
 have form : ∀ {ι : Ren} {fr : Frame} {us : List Frame} {w : World},RelC pr w0 E.ng ι ⟨A,up,μ⟩ fr us w →
   ops[i]? = some o∧∃ r,fr = fr.atR { tmps:=fr.tmps,defers:=fr.defers } (.inRegion ops (i :: r) :: k.map (concI ι))∧o.semAt fr.roundOf ({ tmps:=fr.tmps,defers:=fr.defers } : Act).eval = execOp ({ tmps:=fr.tmps,defers:=fr.defers } : Act).eval o:=by
  intro ι fr us w hR
  have ht:=hR.top
  have hreg : ops.toList.drop i = o :: rest:=ht.btodo (.reg ops i (o :: rest)) (by rw [htd];simp)
  have hfr:=ht.runs hm
  rw [htd] at hfr
  simp only [List.map_cons,concI,List.length_cons,List.range'_succ] at hfr
  refine ⟨(drop_cons hreg).1,_,hfr,?_⟩
  rw [ht.ro]
  cases hro : A.ro with
  | none => rfl
  | some l =>
   refine Oper.semAt_eq _ _ _ fun c hc => ?_
   rw [hro,hc] at hdf
   simp [isDefer] at hdf
 split at h
 ·cases h
 ·rename_i orc1 O1 hkn hw
  have hw:=wantO_spec hw
  split at h
  ·rename_i A' hA'
   simp only [Option.some.injEq,Prod.mk.injEq] at h
   obtain ⟨rfl,rfl,rfl⟩:=h
   refine ⟨hw.1,fun hO ι fr us cs w hR => ?_⟩
   obtain ⟨ho,r,hfr,_⟩:=form hR
   have ht:=hR.top
   have hwd:=wanted_eq ht.fr ops o hkn
   rw [hw.2 hO] at hwd
   have h1:=stepR_op_skip (P:=P) (b:=fr) (a:={ tmps:=fr.tmps,defers:=fr.defers }) (k:=k.map (concI ι)) (cs:=us ++ cs) (w:=w) (ops:=ops) (i:=i) (rest:=r) (by simp only [ho,Option.map_some,Option.getD_some];exact hwd)
   rw [← Frame.finish_atR,← hfr] at h1
   have hf:=ht.finish hA' (by simp)
   rw [conc_undef] at hf
   exact ⟨ι,_,us,w,.one h1,Ext.refl _ _,Nat.le_refl _,hR.sim,hf,hR.up⟩
  ·cases h
 ·rename_i orc1 O1 hkn hw
  have hw:=wantO_spec hw
  have wants : ∀ {ι : Ren} {fr : Frame} {us : List Frame} {w : World},O1 → RelC pr w0 E.ng ι ⟨A,up,μ⟩ fr us w → Region.wanted o (yielded ops fr.tmps) = true:=by
   intro ι fr us w hO hR
   have hwd:=wanted_eq hR.top.fr ops o hkn
   rw [hw.2 hO] at hwd
   exact hwd
  have evs : ∀ {ι : Ren} {fr : Frame} {us : List Frame} {w : World},RelC pr w0 E.ng ι ⟨A,up,μ⟩ fr us w → ∀ x,okOpnd E A.fr.ev x = true → ({ tmps:=fr.tmps,defers:=fr.defers } : Act).eval x = conc ι (A.fr.ev x)∧Bd μ.next (A.fr.ev x) :=
   fun hR x hx => ev_ok hR.sim hR.top.fr x hx
  have argsOk : ∀ {ι : Ren} {fr : Frame} {us : List Frame} {w : World} {c : Call},RelC pr w0 E.ng ι ⟨A,up,μ⟩ fr us w → o.op = .call c → o.op.operands.toList.all (okOpnd E A.fr.ev) = true →
    c.args.map ({ tmps:=fr.tmps,defers:=fr.defers } : Act).eval = ((c.args.toList.map A.fr.ev).map (conc ι)).toArray∧∀ x ∈ c.args.toList.map A.fr.ev,Bd μ.next x:=by
   intro ι fr us w c hR hc hall
   have hmem : ∀ x ∈ c.args,okOpnd E A.fr.ev x = true:=fun x hx => List.all_eq_true.1 hall x (by rw [hc];simp only [Op.operands,Call.operands,Array.toList_append,List.mem_append];right;exact Array.mem_toList_iff.2 hx)
   refine ⟨?_,?_⟩
   ·apply Array.ext'
    simp only [Array.toList_map,List.map_map]
    exact List.map_congr_left fun x hx => (evs hR x (hmem x (Array.mem_toList_iff.1 hx))).1
   ·intro x hx
    obtain ⟨y,hy,rfl⟩:=List.mem_map.1 hx
    exact (evs hR y (hmem y (Array.mem_toList_iff.1 hy))).2
  split at h
  ·-- a round
   rename_i l args hsp
   unfold roundC at h
   split at h
   ·rename_i L hL
    split at h
    ·rename_i t' hput
     simp only [Option.some.injEq,Prod.mk.injEq] at h
     obtain ⟨rfl,rfl,rfl⟩:=h
     refine ⟨hw.1,fun hO ι fr us cs w hR => ?_⟩
     obtain ⟨ho,r,hfr,hsem⟩:=form hR
     unfold specialA at hsp
     split at hsp
     ·rename_i c hop
      split at hsp
      ·cases hsp
      ·cases hsp
      ·rename_i f hcal
       split at hsp
       ·rename_i l' hev
        cases hall : o.op.operands.toList.all (okOpnd E A.fr.ev) with
        | false => rw [hall] at hsp;cases hsp
        | true =>
         rw [hall,cond_true,Option.some.injEq,SR.yld.injEq] at hsp
         obtain ⟨rfl,rfl⟩:=hsp
         obtain ⟨ha1,ha2⟩:=argsOk hR hop hall
         obtain ⟨hf1,hf2⟩:=evs hR f (List.all_eq_true.1 hall f (by rw [hop];simp [Op.operands,Call.operands,hcal]))
         rw [hev,conc_chan] at hf1
         obtain ⟨⟨h0,hq0⟩,h1,h2,tmps,h3,h4,h5⟩:=hR.sim.obj l' _ hL
         rw [Ren.chan_none hq0] at hf1
         obtain ⟨g1,g2,g3⟩:=putAll_ok (ι:=ι) hput h2 h4 h5 ha2
         have hsz : ((c.args.toList.map A.fr.ev).map (conc ι)).toArray.size = L.params.size:=by simp at g1 ⊢;exact g1
         have hrun : (execOp ({ tmps:=fr.tmps,defers:=fr.defers } : Act).eval o).run P w = .ok (.round (ι.loc l').1 L.fn ((L.params.toList.zip ((c.args.toList.map A.fr.ev).map (conc ι))).foldl (fun tmps (p : Tmp × Value) => tmps.setIfInBounds p.1 p.2) tmps) L.assign L.body) w:=by
          have hy:=run_yield (P:=P) h3 hsz
          simp only [execOp,hop,resolve,hcal,hf1,Deferred.ofValue,ha1,Sem.run_bind,Sem.run_pure,Result.andThen_ok,invoke,Array.empty_append]
          rw [hy]
          congr 2
          rw [← Array.foldl_toList]
          simp
         rw [← hsem] at hrun
         have hs:=stepO_round (P:=P) (b:=fr) (k:=k.map (concI ι)) (cs:=us ++ cs) (rest:=r) ho (wants hO hR) hrun
         rw [← hfr] at hs
         refine ⟨ι,_,fr :: us,w,.one hs,Ext.refl _ _,Nat.le_refl _,hR.sim,?_,.cons hR.top hR.up⟩
         refine ⟨rfl,⟨g2,h2,fun t ht => g3 t ht,rfl,by simp⟩,rfl,rfl,rfl,rfl,?_,?_,trivial⟩
         ·intro l2 hl2;simp only [Option.some.injEq] at hl2;subst hl2;exact hR.sim.lt _ _ hL
         ·simp [BdI]
       ·split at hsp
        ·cases hal : o.op.operands.toList.all (okOpnd E A.fr.ev) with
         | false => rw [hal] at hsp;cases hsp
         | true => rw [hal,cond_true] at hsp;split at hsp <;> cases hsp
        ·cases hsp
       ·cases hsp
      ·split at hsp
       ·split at hsp
        ·rename_i f hmeth
         cases hal : (o.op.operands.toList.all (okOpnd E A.fr.ev) && (E.fn f).isSome) with
         | false => rw [hal] at hsp;cases hsp
         | true => rw [hal,cond_true] at hsp;cases hsp
        ·cases hsp
       ·cases hsp
     ·cases hsp
    ·cases h
   ·cases h
  ·-- recover
   rename_i hsp
   unfold recoverC at h
   have hop : ∃ c,o.op = .call c∧c.callee = .builtin .recover:=by
    unfold specialA at hsp
    split at hsp
    ·rename_i c hop
     split at hsp
     ·rename_i hcal;exact ⟨c,hop,hcal⟩
     ·cases hsp
     ·split at hsp
      ·cases hal : o.op.operands.toList.all (okOpnd E A.fr.ev) with
       | false => rw [hal] at hsp;cases hsp
       | true => rw [hal,cond_true] at hsp;cases hsp
      ·split at hsp
       ·cases hal : o.op.operands.toList.all (okOpnd E A.fr.ev) with
        | false => rw [hal] at hsp;cases hsp
        | true => rw [hal,cond_true] at hsp;split at hsp <;> cases hsp
       ·cases hsp
      ·cases hsp
     ·split at hsp
      ·split at hsp
       ·rename_i f hmeth
        cases hal : (o.op.operands.toList.all (okOpnd E A.fr.ev) && (E.fn f).isSome) with
        | false => rw [hal] at hsp;cases hsp
        | true => rw [hal,cond_true] at hsp;cases hsp
       ·cases hsp
      ·cases hsp
    ·cases hsp
   obtain ⟨c,hop,hcal⟩:=hop
   have hrun : ∀ (ρ : Operand → Value) (w : World),(execOp ρ o).run P w = .ok .recover w:=by
    intro ρ w
    simp [execOp,hop,resolve,hcal,invoke,builtin,Sem.run_bind]
   split at h
   ·rename_i cc rst hro hki
    split at h
    ·rename_i v older hcm
     split at h
     ·rename_i A' hA'
      simp only [Option.some.injEq,Prod.mk.injEq] at h
      obtain ⟨rfl,rfl,rfl⟩:=h
      refine ⟨hw.1,fun hO ι fr us cs w hR => ?_⟩
      obtain ⟨ho,r,hfr,hsem⟩:=form hR
      have hr:=hrun ({ tmps:=fr.tmps,defers:=fr.defers } : Act).eval w
      rw [← hsem] at hr
      have hup:=hR.up
      cases hup with
      | cons hc hrest =>
       rename_i fc fs
       have hcm2:=hc.mode
       rw [hcm] at hcm2
       simp only [concM,List.map_cons,concP] at hcm2
       have hbv : Bd μ.next v:=by have:=hc.bmode;rw [hcm] at this;exact this _ (List.mem_cons_self ..)
       have hkd : fr.kind = .deferred:=by rw [hR.top.kind];exact hki
       have htr : tryRecover fr ((fc :: fs) ++ cs) = some (conc ι v,{ fc with mode:=.panicking ({ v:=conc ι v,recovered:=true } :: older.map (concP ι)) } :: (fs ++ cs)):=by
        unfold tryRecover
        rw [hkd]
        simp only [List.cons_append,hcm2]
       have hrn : fr.roundOf = none:=by rw [hR.top.ro];simp only [hro,Option.map_none]
       rw [hfr] at htr
       have hs:=stepO_recover (P:=P) (b:=fr) (k:=k.map (concI ι)) (rest:=r) ho (wants hO hR) hr hrn htr
       rw [← hfr] at hs
       refine ⟨ι,_,_ :: fs,w,.one hs,Ext.refl _ _,Nat.le_refl _,hR.sim,hR.top.finish hA' hbv,.cons ?_ hrest⟩
       refine ⟨hc.fn,hc.fr,hc.todo,rfl,hc.kind,hc.ro,hc.bro,hc.btodo,?_⟩
       have:=hc.bmode
       rw [hcm] at this
       simp only [BdM] at this ⊢
       intro e he
       rcases List.mem_cons.1 he with rfl | he
       ·exact hbv
       ·exact this e (List.mem_cons_of_mem _ he)
     ·cases h
    ·rename_i hcm
     split at h
     ·rename_i A' hA'
      simp only [Option.some.injEq,Prod.mk.injEq] at h
      obtain ⟨rfl,rfl,rfl⟩:=h
      refine ⟨hw.1,fun hO ι fr us cs w hR => ?_⟩
      obtain ⟨ho,r,hfr,hsem⟩:=form hR
      have hr:=hrun ({ tmps:=fr.tmps,defers:=fr.defers } : Act).eval w
      rw [← hsem] at hr
      have hup:=hR.up
      cases hup with
      | cons hc hrest =>
       rename_i fc fs
       have hcm2:=hc.mode
       rw [hcm] at hcm2
       simp only [concM] at hcm2
       have hkd : fr.kind = .deferred:=by rw [hR.top.kind];exact hki
       have htr : tryRecover fr ((fc :: fs) ++ cs) = none:=by
        unfold tryRecover
        rw [hkd]
        simp only [List.cons_append,hcm2]
       have hrn : fr.roundOf = none:=by rw [hR.top.ro];simp only [hro,Option.map_none]
       rw [hfr] at htr
       have hs:=stepO_norecover (P:=P) (b:=fr) (k:=k.map (concI ι)) (rest:=r) ho (wants hO hR) hr hrn htr
       rw [← hfr] at hs
       have hf:=hR.top.finish hA' (by simp)
       rw [conc_nilIface] at hf
       exact ⟨ι,_,fc :: fs,w,.one hs,Ext.refl _ _,Nat.le_refl _,hR.sim,hf,.cons hc hrest⟩
     ·cases h
    ·cases h
   ·cases h
  ·-- an interface's method
   rename_i f args hsp
   have hop : ∃ c r name t v,o.op = .call c∧c.callee = .invoke r name∧A.fr.ev r = .iface t v∧methodA E t name = some f∧args = v :: c.args.toList.map A.fr.ev∧o.op.operands.toList.all (okOpnd E A.fr.ev) = true∧(E.fn f).isSome = true:=by
    unfold specialA at hsp
    split at hsp
    ·rename_i c hop
     split at hsp
     ·cases hsp
     ·cases hsp
     ·split at hsp
      ·cases hal : o.op.operands.toList.all (okOpnd E A.fr.ev) with
       | false => rw [hal] at hsp;cases hsp
       | true => rw [hal,cond_true] at hsp;cases hsp
      ·split at hsp
       ·cases hal : o.op.operands.toList.all (okOpnd E A.fr.ev) with
        | false => rw [hal] at hsp;cases hsp
        | true => rw [hal,cond_true] at hsp;split at hsp <;> cases hsp
       ·cases hsp
      ·cases hsp
     ·rename_i r name hcal
      split at hsp
      ·rename_i t v hev
       split at hsp
       ·rename_i f' hmeth
        cases hal : (o.op.operands.toList.all (okOpnd E A.fr.ev) && (E.fn f').isSome) with
        | false => rw [hal] at hsp;cases hsp
        | true =>
         rw [hal,cond_true,Option.some.injEq,SR.call.injEq] at hsp
         obtain ⟨rfl,rfl⟩:=hsp
         simp only [Bool.and_eq_true] at hal
         exact ⟨c,r,name,t,v,hop,hcal,hev,hmeth,rfl,hal.1,hal.2⟩
       ·cases hsp
      ·cases hsp
    ·cases hsp
   obtain ⟨c,rv,name,t,v,hop,hcal,hev,hmeth,rfl,hall,hfn⟩:=hop
   obtain ⟨hc1,hc2⟩:=callC_ok hE hX h
   refine ⟨fun hO => hw.1 (hc1 hO),fun hO ι fr us cs w hR => ?_⟩
   obtain ⟨ho,r,hfr,hsem⟩:=form hR
   obtain ⟨ha1,ha2⟩:=argsOk hR hop hall
   obtain ⟨hf1,hf2⟩:=evs hR rv (List.all_eq_true.1 hall rv (by rw [hop];simp [Op.operands,Call.operands,hcal]))
   rw [hev,conc_iface] at hf1
   rw [hev,Bd_iface] at hf2
   obtain ⟨fn,hfn⟩:=Option.isSome_iff_exists.1 hfn
   obtain ⟨e1,e2,e3⟩:=hE.fn f fn hfn
   have hrun : (execOp ({ tmps:=fr.tmps,defers:=fr.defers } : Act).eval o).run P w = .ok (.enter f ((v :: c.args.toList.map A.fr.ev).map (conc ι)).toArray) w:=by
    have hcf : ∀ as,(callFunc f as).run P w = .ok (.enter f as) w:=fun as => callFunc_enter hE hfn as w
    have hme:=methodA_ok hE hmeth (P.types.size + 99) (conc ι v) w
    simp only [execOp,hop,resolve,hcal,hf1,ha1,Sem.run_bind,Sem.run_pure,Result.andThen_ok,invoke]
    simp only [List.map_cons,callMethod,Sem.run_bind,run_program,Result.andThen_ok]
    simp
    rw [show P.types.size + Made.depth = P.types.size + 99 + 1 from rfl,hme]
    simp [hcf]
    rw [List.take_of_length_le (by simp)]
   rw [← hsem] at hrun
   have hs:=stepO_enter (P:=P) (b:=fr) (k:=k.map (concI ι)) (cs:=us ++ cs) (rest:=r) ho (wants (hc1 hO) hR) hrun
   rw [← hfr] at hs
   exact hc2 hO hR.sim hR.top hR.up (by simp only [List.mem_cons];rintro x (rfl | hx);exact hf2;exact ha2 x hx) hs
  ·-- a function without a body
   rename_i v hsp
   have hop : ∃ c f g first captured x,o.op = .call c∧c.callee = .value f∧A.fr.ev f = .func (.func g) first captured∧X.X g = some x∧x (first.toList ++ c.args.toList.map A.fr.ev ++ captured.toList) μ = some v∧o.op.operands.toList.all (okOpnd E A.fr.ev) = true:=by
    unfold specialA at hsp
    split at hsp
    ·rename_i c hop
     split at hsp
     ·cases hsp
     ·cases hsp
     ·rename_i f hcal
      split at hsp
      ·cases hal : o.op.operands.toList.all (okOpnd E A.fr.ev) with
       | false => rw [hal] at hsp;cases hsp
       | true => rw [hal,cond_true] at hsp;cases hsp
      ·rename_i g first captured hev
       split at hsp
       ·rename_i x hx
        cases hal : o.op.operands.toList.all (okOpnd E A.fr.ev) with
        | false => rw [hal] at hsp;cases hsp
        | true =>
         rw [hal,cond_true] at hsp
         split at hsp
         ·rename_i v' hv
          rw [Option.some.injEq,SR.ext.injEq] at hsp
          subst hsp
          exact ⟨c,f,g,first,captured,x,hop,hcal,hev,hx,hv,rfl⟩
         ·cases hsp
       ·cases hsp
      ·cases hsp
     ·split at hsp
      ·split at hsp
       ·rename_i f hmeth
        cases hal : (o.op.operands.toList.all (okOpnd E A.fr.ev) && (E.fn f).isSome) with
        | false => rw [hal] at hsp;cases hsp
        | true => rw [hal,cond_true] at hsp;cases hsp
       ·cases hsp
      ·cases hsp
    ·cases hsp
   obtain ⟨c,f,g,first,captured,x,hop,hcal,hev,hx,hv,hall⟩:=hop
   split at h
   ·rename_i A' hA'
    simp only [Option.some.injEq,Prod.mk.injEq] at h
    obtain ⟨rfl,rfl,rfl⟩:=h
    refine ⟨hw.1,fun hO ι fr us cs w hR => ?_⟩
    obtain ⟨ho,r,hfr,hsem⟩:=form hR
    obtain ⟨ha1,ha2⟩:=argsOk hR hop hall
    obtain ⟨hf1,hf2⟩:=evs hR f (List.all_eq_true.1 hall f (by rw [hop];simp [Op.operands,Call.operands,hcal]))
    rw [hev,conc_func] at hf1
    rw [hev,Bd_func] at hf2
    obtain ⟨hr1,hr2⟩:=hX.ext g x hx _ μ v hv ι w hR.sim (by
     intro y hy
     simp only [List.mem_append] at hy
     rcases hy with (hy | hy) | hy
     ·exact hf2.1 y (by simpa using hy)
     ·exact ha2 y hy
     ·exact hf2.2 y (by simpa using hy))
    have hrun : (execOp ({ tmps:=fr.tmps,defers:=fr.defers } : Act).eval o).run P w = .ok (.value (conc ι v)) w:=by
     simp only [execOp,hop,resolve,hcal,hf1,Deferred.ofValue,ha1,Sem.run_bind,Sem.run_pure,Result.andThen_ok,invoke]
     rw [← hr1]
     congr 2
     apply Array.ext'
     simp
    rw [← hsem] at hrun
    have hs:=stepO_val (P:=P) (b:=fr) (k:=k.map (concI ι)) (cs:=us ++ cs) (rest:=r) ho (wants hO hR) hrun
    rw [← hfr] at hs
    exact ⟨ι,_,us,w,.one hs,Ext.refl _ _,Nat.le_refl _,hR.sim,hR.top.finish hA' hr2,hR.up⟩
   ·cases h
  ·-- as ever
   cases hpl : pull orc1 with
   | mk ans orc2 =>
   rw [hpl] at h
   simp only at h
   cases hop : opS P E A.fr.ev o μ ans with
   | none => rw [hop] at h;cases h
   | some q0 =>
   obtain ⟨res,q⟩:=q0
   rw [hop] at h
   have rel : ∀ {ι : Ren} {fr : Frame} {us : List Frame} {w : World},(∀ p,q = some p → p) → RelC pr w0 E.ng ι ⟨A,up,μ⟩ fr us w → OpRel P pr w0 E.ng ι μ w (execOp ({ tmps:=fr.tmps,defers:=fr.defers } : Act).eval o) res:=by
    intro ι fr us w hq hR
    have:=op_rel (ng:=E.ng) hE hR.sim o ({ tmps:=fr.tmps,defers:=fr.defers } : Act).eval A.fr.ev (fun x _ hx => evs hR x hx)
    rw [opS_ok hop hq] at this
    exact this
   cases res with
   | val v μ' =>
    simp only at h
    split at h
    ·rename_i A' hA'
     simp only [Option.some.injEq,Prod.mk.injEq] at h
     obtain ⟨rfl,rfl,rfl⟩:=h
     refine ⟨fun hO => hw.1 (andO_left hO),fun hO ι fr us cs w hR => ?_⟩
     obtain ⟨ho,r,hfr,hsem⟩:=form hR
     obtain ⟨ι',w',hr,hS',hx,hl,hb⟩:=rel (andO_right hO) hR
     have htop:=(hR.top.mono hx hl).finish hA' hb
     rw [← hsem] at hr
     rcases hr with hr | ⟨hr,rfl⟩
     ·have hs:=stepO_val (P:=P) (b:=fr) (k:=k.map (concI ι)) (cs:=us ++ cs) (rest:=r) ho (wants (andO_left hO) hR) hr
      rw [← hfr] at hs
      exact ⟨ι',_,us,w',.one hs,hx,hl,hS',htop,FrameR.monoAll hx hl hR.up⟩
     ·have hs:=stepO_skip (P:=P) (b:=fr) (k:=k.map (concI ι)) (cs:=us ++ cs) (rest:=r) ho (wants (andO_left hO) hR) hr
      rw [← hfr] at hs
      rw [conc_undef] at htop
      exact ⟨ι',_,us,w',.one hs,hx,hl,hS',htop,FrameR.monoAll hx hl hR.up⟩
    ·cases h
   | dfr d μ' =>
    simp only at h
    split at h
    ·rename_i A' hA'
     simp only [Option.some.injEq,Prod.mk.injEq] at h
     obtain ⟨rfl,rfl,rfl⟩:=h
     refine ⟨fun hO => hw.1 (andO_left hO),fun hO ι fr us cs w hR => ?_⟩
     obtain ⟨ho,r,hfr,hsem⟩:=form hR
     obtain ⟨hμ,hr,hb⟩:=rel (andO_right hO) hR
     subst hμ
     rw [← hsem] at hr
     have hs:=stepO_defer (P:=P) (b:=fr) (k:=k.map (concI ι)) (cs:=us ++ cs) (rest:=r) ho (wants (andO_left hO) hR) hr
     have htop : FrameR ι μ'.next { A with fr:={ A.fr with df:=d :: A.fr.df } } (fr.atR { ({ tmps:=fr.tmps,defers:=fr.defers } : Act) with defers:=concD ι d :: fr.defers } (.inRegion ops (i :: r) :: k.map (concI ι))):=by
      have htt:=hR.top
      have htd2:=htt.todo
      rw [hfr] at htd2
      refine ⟨htt.fn,htt.fr.defer hb,htd2,by simp only [hm,concM,Frame.atR],htt.kind,htt.ro,htt.bro,htt.btodo,htt.bmode⟩
     have hf:=htop.finish hA' (by simp)
     rw [conc_undef] at hf
     rw [← hfr] at hs
     exact ⟨ι,_,us,w,.one hs,Ext.refl _ _,Nat.le_refl _,hR.sim,hf,hR.up⟩
    ·cases h
   | pan v μ' =>
    simp only [Option.some.injEq,Prod.mk.injEq] at h
    obtain ⟨rfl,rfl,rfl⟩:=h
    refine ⟨fun hO => hw.1 (andO_left hO),fun hO ι fr us cs w hR => ?_⟩
    obtain ⟨ho,r,hfr,hsem⟩:=form hR
    obtain ⟨hμ,hr,hb⟩:=rel (andO_right hO) hR
    subst hμ
    rw [← hsem] at hr
    have hs:=stepO_panic (P:=P) (b:=fr) (k:=k.map (concI ι)) (cs:=us ++ cs) (rest:=r) ho (wants (andO_left hO) hR) hr
    rw [← hfr] at hs
    exact ⟨ι,_,us,w,.one hs,Ext.refl _ _,Nat.le_refl _,hR.sim,hR.top.raise (ch:=[{ v,recovered:=false }]) (by simpa using hb),hR.up⟩
   | call f args μ' =>
    simp only at h
    obtain ⟨hc1,hc2⟩:=callC_ok hE hX h
    refine ⟨fun hO => hw.1 (andO_left (hc1 hO)),fun hO ι fr us cs w hR => ?_⟩
    obtain ⟨ho,r,hfr,hsem⟩:=form hR
    obtain ⟨hμ,hr,hb⟩:=rel (andO_right (hc1 hO)) hR
    subst hμ
    rw [← hsem] at hr
    have hs:=stepO_enter (P:=P) (b:=fr) (k:=k.map (concI ι)) (cs:=us ++ cs) (rest:=r) ho (wants (andO_left (hc1 hO)) hR) hr
    rw [← hfr] at hs
    exact hc2 hO hR.sim hR.top hR.up hb hs
   | no => cases h
end
end Go.Abs
end
section
namespace Go.Abs
section
variable {P : Program} {E : Env} {pr : Prot} {w0 : World} (hE : EnvOk P E)
include hE
omit hE in
theorem Ren.upd_same (ι : Ren) (n : Nat) (l : Nat × Nat) (e : Nat) : (ι.upd n l e).loc n = l:=by simp [Ren.upd,Ren.updQ]
omit hE in
theorem Ren.upd_ne (ι : Ren) {n k : Nat} (l : Nat × Nat) (e : Nat) (h : k ≠ n) : (ι.upd n l e).loc k = ι.loc k:=by simp [Ren.upd,Ren.updQ,h]
omit hE in
theorem newLoop_ok {ng : Nat} {ι : Ren} {μ μ' : Hp} {w : World} (hS : Sim pr w0 ng ι μ w) {fn : FuncId} {fr : Fr} {a : Act} {params : Array Tmp} {assign body : Code} {df l : Nat}
  (hn : μ.new (.loop { st:=.ready,pend:=none,fn,t:=fr.t,sz:=fr.sz,d:=fr.d,params,assign,body,df }) = some (l,μ')) (hF : FrRel ι μ.next fr a) (hdf : df < μ.next) :
  Sim pr w0 ng (ι.upd l (w.heap.size,0) 0) μ' (w.alloc (.loop { state:=.ready,pending:=none,fn,tmps:=a.tmps,params,assign,body,defers:=(ι.loc df).1 }))∧Ext μ.next ι (ι.upd l (w.heap.size,0) 0)∧μ'.next = μ.next + 1∧l = μ.next:=by
 obtain ⟨e1,e2,e3⟩:=Hp.new_eq hn
 have hnx : μ'.next = μ.next + 1:=by rw [e3]
 have hx:=Ren.upd_ext ι l (w.heap.size,0) 0
 rw [e1] at hx
 refine hS.alloc hn _ 0 ⟨⟨by rw [Ren.upd_same],by simp [Ren.upd,Ren.updQ]⟩,by simp only;omega,hF.lim,a.tmps,?_,hF.size,fun t htp => ?_⟩
 ·rw [Ren.upd_same,Ren.upd_ne _ _ _ (by simp only;omega)]
  exact World.alloc_heap_new _ _
 ·obtain ⟨g1,g2⟩:=hF.tmp t htp
  rw [e1]
  exact ⟨by rw [g1,← conc_ext hx _ g2];rfl,Bd.mono (by omega) _ g2⟩
theorem rangeC_ok {A : AFr} {up : List AFr} {μ : Hp} {f : Operand} {params : Array Tmp} {assign body : Code} {k : List AItem} {orc : List Ans} {O : Prop} {C' : Conf} {orc' : List Ans} {O' : Prop}
  (hm : A.mode = .run) (htd : A.todo = .code (.rangeFunc f params assign body) :: k) (h : rangeC E A up μ f params assign body k orc O = some (C',orc',O')) : O' = O∧orc' = orc∧Goes P pr w0 E.ng ⟨A,up,μ⟩ C':=by
 unfold rangeC at h
 simp only at h
 split at h
 ·rename_i d df' μ1 hr
  split at h
  ·rename_i l μ2 hnl
   split at h
   ·rename_i g first captured hok hev
    split at h
    ·rename_i B hB
     simp only [Option.some.injEq,Prod.mk.injEq] at h
     obtain ⟨rfl,rfl,rfl⟩:=h
     refine ⟨rfl,rfl,fun ι fr us cs w hR => ?_⟩
     have ht:=hR.top
     have hfr:=ht.runs hm
     rw [htd] at hfr
     simp only [List.map_cons,concI] at hfr
     have hg : (E.fn g).isSome = true:=by
      unfold enterA at hB
      cases hf : E.fn g with
      | none => rw [hf] at hB;cases hB
      | some fn => rfl
     obtain ⟨fn,hfn⟩:=Option.isSome_iff_exists.1 hg
     obtain ⟨hev1,hev2⟩:=ev_ok hR.sim ht.fr f hok
     rw [hev,conc_func] at hev1
     rw [hev,Bd_func] at hev2
     -- the record and the block
     have key : ∃ (ι1 : Ren) (w1 : World) (l1 : Nat) (mark : List Deferred),Sim pr w0 E.ng ι1 μ2 w1∧Ext μ.next ι ι1∧μ.next ≤ μ2.next∧l < μ2.next∧ι1.opq l = none∧(ι1.loc l).1 = l1 ∧
       (Instr.enterLoop fr.fn fr.tmps params assign body fr.roundOf).run P w = .ok (l1,mark) w1∧(∀ e ∈ df',BdD μ2.next e)∧mark ++ fr.defers = df'.map (concD ι1):=by
      have hdf : fr.defers = A.fr.df.map (concD ι):=ht.fr.df
      have hS0 : Sim pr w0 E.ng ι μ w:=hR.sim
      have hF0 : FrRel ι μ.next A.fr { tmps:=fr.tmps,defers:=fr.defers }:=ht.fr
      split at hr
      ·rename_i hro
       split at hr
       ·rename_i d0 μ0 hnd
        simp only [Option.some.injEq,Prod.mk.injEq] at hr
        obtain ⟨rfl,rfl,rfl⟩:=hr
        obtain ⟨hS1,hx1,hn1,hd0⟩:=hS0.alloc hnd (.deferred (some [])) 0 ⟨by rw [Ren.upd_same],by rw [Ren.upd_same];exact World.alloc_heap_new _ _⟩
        obtain ⟨hS2,hx2,hn2,hl2⟩:=newLoop_ok hS1 hnl (hF0.mono hx1 (by omega)) (by omega)
        have hxx:=hx1.trans hx2 (by omega)
        refine ⟨_,_,w.heap.size + 1,[{ target:=.collected w.heap.size,args:=#[] }],hS2,hxx,by omega,by omega,by simp [Ren.upd,Ren.updQ],by rw [Ren.upd_same,World.size_alloc],?_,?_,?_⟩
        ·rw [show fr.roundOf = none by rw [ht.ro];simp only [hro,Option.map_none],run_enterLoop_outer,ht.fn,Ren.upd_same]
        ·intro e he
         rcases List.mem_cons.1 he with rfl | he
         ·exact ⟨by simp,by simp only;omega⟩
         ·exact BdD.mono (by omega) (hF0.bd e he)
        ·rw [hdf,List.map_cons,List.cons_append,List.nil_append]
         congr 1
         ·simp only [concD,Array.map_empty]
          rw [Ren.upd_ne _ _ _ (by omega : d0 ≠ l),Ren.upd_same]
         ·exact List.map_congr_left fun e he => (concD_ext hxx (hF0.bd e he)).symm
       ·cases hr
      ·rename_i l0 hro
       split at hr
       ·rename_i L0 hg0
        simp only [Option.some.injEq,Prod.mk.injEq] at hr
        obtain ⟨rfl,rfl,rfl⟩:=hr
        obtain ⟨h0,h1,h2,tmps,h3,h4,h5⟩:=hS0.obj l0 _ hg0
        obtain ⟨hS2,hx2,hn2,hl2⟩:=newLoop_ok hS0 hnl hF0 h1
        refine ⟨_,_,w.heap.size,[],hS2,hx2,by omega,by omega,by simp [Ren.upd,Ren.updQ],by rw [Ren.upd_same],?_,fun e he => BdD.mono (by omega) (hF0.bd e he),?_⟩
        ·rw [show fr.roundOf = some (ι.loc l0).1 by rw [ht.ro];simp only [hro,Option.map_some],run_enterLoop_inner h3,ht.fn]
        ·rw [hdf,List.nil_append]
         exact List.map_congr_left fun e he => (concD_ext hx2 (hF0.bd e he)).symm
       ·cases hr
     obtain ⟨ι1,w1,l1,mark,hS1,hx1,hle,hl,hq1,hl1,hrun,hbd,hdf⟩:=key
     have hres : (resolve ({ tmps:=fr.tmps,defers:=fr.defers } : Act).eval (rangeCall f l1) 0).run P w1 = .ok { target:=.fn (.func g) (captured.map (conc ι)),args:=first.map (conc ι) ++ #[.func (.yield l1) #[] #[]] } w1:=by
      simp only [resolve,rangeCall,hev1,Deferred.ofValue,Sem.run_pure]
      congr 3
      simp [Act.eval]
     have hinv : (invoke (.fn (.func g) (captured.map (conc ι))) (first.map (conc ι) ++ #[.func (.yield l1) #[] #[]])).run P w1 = .ok (.enter g (first.map (conc ι) ++ #[.func (.yield l1) #[] #[]] ++ captured.map (conc ι))) w1:=by
      simp only [invoke]
      exact callFunc_enter hE hfn _ _
     have hs:=stepR_rangeFunc (P:=P) (b:=fr) (a:={ tmps:=fr.tmps,defers:=fr.defers }) (k:=k.map (concI ι)) (cs:=us ++ cs) (w:=w) hrun hres hinv
     rw [← hfr] at hs
     have hargs : (first.map (conc ι) ++ #[.func (.yield l1) #[] #[]] ++ captured.map (conc ι)) = ((first.toList ++ [Value.chan (some l)] ++ captured.toList).map (conc ι1)).toArray:=by
      apply Array.ext'
      simp only [Array.toList_append,Array.toList_map,List.map_append,List.map_cons,List.map_nil,conc_chan,Ren.chan_none hq1,hl1]
      congr 1
      ·congr 1
       exact List.map_congr_left fun x hx => (conc_ext hx1 x (hev2.1 x (Array.mem_toList_iff.1 hx))).symm
      ·exact List.map_congr_left fun x hx => (conc_ext hx1 x (hev2.2 x (Array.mem_toList_iff.1 hx))).symm
     rw [hargs] at hs
     refine ⟨ι1,_,_ :: us,w1,.one hs,hx1,hle,hS1,enterA_ok hE hB ?_,.cons ?_ (FrameR.monoAll hx1 hle hR.up)⟩
     ·intro x hx
      simp only [List.mem_append,List.mem_singleton] at hx
      rcases hx with (hx | rfl) | hx
      ·exact Bd.mono hle _ (hev2.1 x (by simpa using hx))
      ·simpa using hl
      ·exact Bd.mono hle _ (hev2.2 x (by simpa using hx))
     ·have hbase:=ht.mono hx1 hle
      refine ⟨hbase.fn,⟨hbase.fr.size,hbase.fr.lim,hbase.fr.tmp,hdf,hbd⟩,?_,by simp [Frame.atR,hm,concM],hbase.kind,hbase.ro,hbase.bro,?_,hbase.bmode⟩
      ·simp only [Frame.atR,List.map_cons,concI,hl1]
       congr 1
       exact List.map_congr_left fun i hi => (concI_ext hx1 (ht.btodo i (by rw [htd];exact List.mem_cons_of_mem _ hi))).symm
      ·intro i hi
       rcases List.mem_cons.1 hi with rfl | hi
       ·exact hl
       ·exact BdI.mono hle (ht.btodo i (by rw [htd];exact List.mem_cons_of_mem _ hi))
    ·cases h
   ·cases h
  ·cases h
 ·cases h
theorem codeC_ok (hmix : P.follows .mixedOrders = true) {X : Par} (hX : ParOk P E pr w0 X) {A : AFr} {up : List AFr} {μ : Hp} {k : List AItem} {c : Code} {orc : List Ans} {O : Prop} {C' : Conf} {orc' : List Ans} {O' : Prop}
  (hm : A.mode = .run) (htd : A.todo = .code c :: k) (h : codeC P E X A up μ k orc O c = some (C',orc',O')) : (O' → O)∧(O' → Goes P pr w0 E.ng ⟨A,up,μ⟩ C'):=by
 have bdk : ∀ N,(∀ i ∈ A.todo,BdI N i) → ∀ i ∈ k,BdI N i:=fun N hb i hi => hb i (by rw [htd];exact List.mem_cons_of_mem _ hi)
 have bdc : ∀ (x : AItem),(∀ N,BdI N x) → ∀ N,(∀ i ∈ A.todo,BdI N i) → ∀ i ∈ x :: k,BdI N i:=fun x hx N hb i hi => by
  rcases List.mem_cons.1 hi with rfl | hi
  ·exact hx N
  ·exact bdk N hb i hi
 have bdcc : ∀ (x y : AItem),(∀ N,BdI N x) → (∀ N,BdI N y) → ∀ N,(∀ i ∈ A.todo,BdI N i) → ∀ i ∈ x :: y :: k,BdI N i:=fun x y hx hy N hb i hi => by
  rcases List.mem_cons.1 hi with rfl | hi
  ·exact hx N
  ·exact bdc y hy N hb i hi
 have go : ∀ (todo : List AItem),(∀ N,(∀ i ∈ A.todo,BdI N i) → ∀ i ∈ todo,BdI N i) →
   (∀ (ι : Ren) (b : Frame) (a : Act) (cs : List Frame) (w : World),FrRel ι μ.next A.fr a → step P (lone (b.atR a (.code c :: k.map (concI ι))) cs w) = .next (lone (b.atR a (todo.map (concI ι))) cs w)) →
   Goes P pr w0 E.ng ⟨A,up,μ⟩ ⟨{ A with todo:=todo },up,μ⟩:=fun todo hb hs => goes_to hm hb (by rw [htd];exact hs)
 cases c with
 | skip =>
  simp only [codeC,Option.some.injEq,Prod.mk.injEq] at h
  obtain ⟨rfl,rfl,rfl⟩:=h
  exact ⟨id,fun _ => go k bdk fun _ _ _ _ _ _ => stepR_skip⟩
 | label l =>
  simp only [codeC,Option.some.injEq,Prod.mk.injEq] at h
  obtain ⟨rfl,rfl,rfl⟩:=h
  exact ⟨id,fun _ => go k bdk fun _ _ _ _ _ _ => stepR_label⟩
 | seq x y =>
  simp only [codeC,Option.some.injEq,Prod.mk.injEq] at h
  obtain ⟨rfl,rfl,rfl⟩:=h
  exact ⟨id,fun _ => go _ (bdcc _ _ (fun _ => trivial) fun _ => trivial) fun _ _ _ _ _ _ => stepR_seq⟩
 | block id x =>
  simp only [codeC,Option.some.injEq,Prod.mk.injEq] at h
  obtain ⟨rfl,rfl,rfl⟩:=h
  exact ⟨fun h => h,fun _ => go _ (bdcc _ _ (fun _ => trivial) fun _ => trivial) fun _ _ _ _ _ _ => stepR_block⟩
 | loop x =>
  simp only [codeC,Option.some.injEq,Prod.mk.injEq] at h
  obtain ⟨rfl,rfl,rfl⟩:=h
  exact ⟨id,fun _ => go _ (bdcc _ _ (fun _ => trivial) fun _ => trivial) fun _ _ _ _ _ _ => stepR_loop⟩
 | scope x =>
  simp only [codeC,Option.some.injEq,Prod.mk.injEq] at h
  obtain ⟨rfl,rfl,rfl⟩:=h
  refine ⟨id,fun _ => go _ (bdcc _ _ (fun _ => trivial) fun _ => trivial) fun _ _ _ _ _ _ => ?_⟩
  exact step_lone_go (by simp [stepG,stepG.exec,Frame.atR,concI])
 | cond x a b =>
  simp only [codeC] at h
  cases hok : okOpnd E A.fr.ev x with
  | false => rw [hok] at h;cases h
  | true =>
   rw [hok,cond_true] at h
   cases hev : A.fr.ev x with
   | bool t =>
    rw [hev] at h
    simp only at h
    have hst : ∀ (t' : Bool),t = t' → Goes P pr w0 E.ng ⟨A,up,μ⟩ ⟨{ A with todo:=.code (if t' then a else b) :: k },up,μ⟩:=by
     intro t' ht'
     subst ht'
     intro ι fr us cs w hR
     have ht:=hR.top
     have hfr:=ht.runs hm
     rw [htd] at hfr
     simp only [List.map_cons,concI] at hfr
     obtain ⟨h1,_⟩:=ev_ok hR.sim ht.fr x hok
     rw [hev,conc_bool] at h1
     have hs:=stepR_cond (P:=P) (b:=fr) (a:={ tmps:=fr.tmps,defers:=fr.defers }) (k:=k.map (concI ι)) (cs:=us ++ cs) (w:=w) (x:=a) (y:=b) h1
     rw [← hfr] at hs
     exact ⟨ι,_,us,w,.one hs,Ext.refl _ _,Nat.le_refl _,hR.sim,ht.to (bdc (.code (if t then a else b)) (fun _ => trivial) _ ht.btodo) hm,hR.up⟩
    cases hpl : pull orc with
    | mk ans orc1 =>
     rw [hpl] at h
     have fin : ∀ (t' : Bool),some ((⟨{ A with todo:=.code (if t' then a else b) :: k },up,μ⟩ : Conf),orc1,O∧t = t') = some (C',orc',O') → (O' → O)∧(O' → Goes P pr w0 E.ng ⟨A,up,μ⟩ C'):=by
      intro t' h
      simp only [Option.some.injEq,Prod.mk.injEq] at h
      obtain ⟨rfl,rfl,rfl⟩:=h
      exact ⟨fun h => h.1,fun h => hst t' h.2⟩
     have fin2 : some ((⟨{ A with todo:=.code (if t then a else b) :: k },up,μ⟩ : Conf),orc1,O) = some (C',orc',O') → (O' → O)∧(O' → Goes P pr w0 E.ng ⟨A,up,μ⟩ C'):=by
      intro h
      simp only [Option.some.injEq,Prod.mk.injEq] at h
      obtain ⟨rfl,rfl,rfl⟩:=h
      exact ⟨id,fun h => hst t rfl⟩
     cases ans with
     | b d => cases d with
      | true => exact fin true h
      | false => exact fin false h
     | _ => cases t <;> exact fin2 h
   | _ => rw [hev] at h;cases h
 | exit id =>
  simp only [codeC] at h
  cases hx : exitA id k with
  | some k' =>
   rw [hx] at h
   simp only [Option.some.injEq,Prod.mk.injEq] at h
   obtain ⟨rfl,rfl,rfl⟩:=h
   exact ⟨fun h => h,fun _ => go k' (fun N hb i hi => bdk N hb i (exitA_mem hx i hi)) fun ι b a cs w _ => stepR_exit (by rw [exitA_ok,hx];rfl)⟩
  | none =>
   rw [hx] at h
   obtain ⟨rfl,_,hg⟩:=leaveC_ok (pr:=pr) (w0:=w0) hE hm (.inr (.inr ⟨id,k,rfl,htd,hx⟩)) h
   exact ⟨fun h => h,fun _ => hg⟩
 | goto l =>
  simp only [codeC] at h
  cases hx : gotoA l k with
  | some k' =>
   rw [hx] at h
   simp only [Option.some.injEq,Prod.mk.injEq] at h
   obtain ⟨rfl,rfl,rfl⟩:=h
   exact ⟨id,fun _ => go k' (fun N hb => gotoA_bd hx (bdk N hb)) fun ι b a cs w _ => stepR_goto (gotoA_ok ι l k k' hx)⟩
  | none => rw [hx] at h;cases h
 | ret =>
  simp only [codeC] at h
  obtain ⟨rfl,_,hg⟩:=leaveC_ok (pr:=pr) (w0:=w0) hE hm (.inr (.inl ⟨rfl,k,htd⟩)) h
  exact ⟨id,fun _ => hg⟩
 | rangeFunc f params assign body =>
  simp only [codeC] at h
  obtain ⟨rfl,_,hg⟩:=rangeC_ok (pr:=pr) (w0:=w0) hE hm htd h
  exact ⟨id,fun _ => hg⟩
 | refuse w => simp [codeC] at h
 | region rid ops draw =>
  cases draw with
  | false =>
   simp only [codeC,Option.some.injEq,Prod.mk.injEq] at h
   obtain ⟨rfl,rfl,rfl⟩:=h
   refine ⟨id,fun _ => go _ (bdc _ fun _ => rfl) fun ι b a cs w _ => ?_⟩
   have:=stepR_region (P:=P) (b:=b) (a:=a) (k:=k.map (concI ι)) (cs:=cs) (w:=w) (ops:=ops) (id:=rid)
   rw [this]
   simp only [List.map_cons,concI,Array.length_toList,List.range_eq_range']
  | true =>
   simp only [codeC] at h
   cases hd : (A.ro.isNone || ops.toList.all fun o => !isDefer o.op) with
   | false => rw [hd] at h;cases h
   | true =>
    rw [hd,cond_true] at h
    have fin : ∀ (fr' : Fr) (μ' : Hp),(∀ {Q : Exit → Act → World → Prop} {ι : Ren} {w : World} {a : Act},Sim pr w0 E.ng ι μ w → FrRel ι μ.next A.fr a → Goal pr w0 E.ng ι μ Q .normal fr' μ' → wpAny P .any ops Q ops.size (Array.replicate ops.size false) a w) →
      some ((⟨{ A with fr:=fr',todo:=k },up,μ'⟩ : Conf),orc,O) = some (C',orc',O') → (O' → O)∧(O' → Goes P pr w0 E.ng ⟨A,up,μ⟩ C'):=by
     intro fr' μ' hdrawn h
     simp only [Option.some.injEq,Prod.mk.injEq] at h
     obtain ⟨rfl,rfl,rfl⟩:=h
     refine ⟨fun h => h,fun _ ι fr us cs w hR => ?_⟩
     have ht:=hR.top
     have hfr:=ht.runs hm
     rw [htd] at hfr
     simp only [List.map_cons,concI] at hfr
     have hany:=hdrawn hR.sim.drew ht.fr (Q:=fun e a w => e = .normal∧∃ ι',Ext μ.next ι ι'∧μ.next ≤ μ'.next∧Sim pr w0 E.ng ι' μ' w∧FrRel ι' μ'.next fr' a) (fun ι' a' w' h1 h2 h3 h4 => ⟨rfl,ι',h1,h2,h3,h4⟩)
     have hs1:=stepR_region_draw (P:=P) (b:=fr) (a:={ tmps:=fr.tmps,defers:=fr.defers }) (k:=k.map (concI ι)) (cs:=us ++ cs) (w:=w) (ops:=ops) (id:=rid)
     have hops:=wpAny_sound ops.size (w.tape w.drawn (.order fr.fn rid)) _ _ _ hany
     have hsch : Region.schedule (P.follows .mixedOrders) ops (w.tape w.drawn (.order fr.fn rid)) = Region.linearise.go .any ops ops.size (w.tape w.drawn (.order fr.fn rid)) (Array.replicate ops.size false) []:=by
      simp only [Region.schedule,hmix,Bool.true_or,if_true,Region.linearise]
     rw [hsch] at hs1
     have hnd : fr.roundOf = none ∨ ∀ o ∈ ops.toList,isDefer o.op = false:=by
      simp only [Bool.or_eq_true] at hd
      rcases hd with hd | hd
      ·left;rw [ht.ro];cases hro : A.ro with
       | none => rfl
       | some l => rw [hro] at hd;cases hd
      ·right;intro o ho;have:=List.all_eq_true.1 hd o ho;simpa using this
     obtain ⟨a',w',⟨ι',hx,hl,hS',hF'⟩,hs2⟩:=wpOps_steps _ _ _ hops fr (k.map (concI ι)) (us ++ cs) hnd
     rw [← hfr] at hs1
     refine ⟨ι',fr.atR a' (k.map (concI ι)),us,w',.head hs1 hs2,hx,hl,hS',?_,FrameR.monoAll hx hl hR.up⟩
     have hbase:=ht.mono hx hl
     have:=hbase.at hF' (todo:=k) (fun i hi => hbase.btodo i (by rw [htd];exact List.mem_cons_of_mem _ hi)) hm
     have hk : k.map (concI ι') = k.map (concI ι):=List.map_congr_left fun i hi => concI_ext hx (ht.btodo i (by rw [htd];exact List.mem_cons_of_mem _ hi))
     rw [hk] at this
     exact this
    cases hdr : drawnA P E X.run0 ops A.fr μ with
    | some q =>
     obtain ⟨fr',μ'⟩:=q
     rw [hdr] at h
     exact fin fr' μ' (fun hS hF hG => drawn_ok hE (hX.run0 pr w0) hdr hS hF hG) h
    | none =>
     rw [hdr] at h
     simp only at h
     cases hdf : drawnF P E X.run0 ops A.fr μ with
     | some q =>
      obtain ⟨fr',μ'⟩:=q
      rw [hdf] at h
      exact fin fr' μ' (fun hS hF hG => drawnF_ok hE hX.run0 hdf hS hF hG) h
     | none => rw [hdf] at h;cases h
theorem runC_ok (hmix : P.follows .mixedOrders = true) {X : Par} (hX : ParOk P E pr w0 X) {A : AFr} {up : List AFr} {μ : Hp} {orc : List Ans} {O : Prop} {C' : Conf} {orc' : List Ans} {O' : Prop}
  (hm : A.mode = .run) (h : runC P E X A up μ orc O = some (C',orc',O')) : (O' → O)∧(O' → Goes P pr w0 E.ng ⟨A,up,μ⟩ C'):=by
 unfold runC at h
 have bdk : ∀ {x : AItem} {k : List AItem},A.todo = x :: k → ∀ N,(∀ i ∈ A.todo,BdI N i) → ∀ i ∈ k,BdI N i:=fun htd N hb i hi => hb i (by rw [htd];exact List.mem_cons_of_mem _ hi)
 split at h
 ·rename_i htd
  obtain ⟨rfl,_,hg⟩:=leaveC_ok (pr:=pr) (w0:=w0) hE hm (.inl ⟨rfl,htd⟩) h
  exact ⟨id,fun _ => hg⟩
 ·rename_i c k htd
  exact codeC_ok hE hmix hX hm htd h
 ·rename_i id k htd
  simp only [Option.some.injEq,Prod.mk.injEq] at h
  obtain ⟨rfl,rfl,rfl⟩:=h
  exact ⟨fun h => h,fun _ => goes_to hm (bdk htd) fun ι b a cs w _ => by rw [htd];exact stepR_inBlock⟩
 ·rename_i b0 k htd
  simp only [Option.some.injEq,Prod.mk.injEq] at h
  obtain ⟨rfl,rfl,rfl⟩:=h
  exact ⟨fun h => h,fun _ => goes_to hm (bdk htd) fun ι b a cs w _ => by rw [htd];exact step_lone_go (by simp [stepG,stepG.exec,Frame.atR,concI])⟩
 ·rename_i body k htd
  simp only [Option.some.injEq,Prod.mk.injEq] at h
  obtain ⟨rfl,rfl,rfl⟩:=h
  refine ⟨fun h => h,fun _ => goes_to hm (fun N hb i hi => ?_) fun ι b a cs w _ => by rw [htd];exact stepR_inLoop⟩
  rcases List.mem_cons.1 hi with rfl | hi
  ·trivial
  ·exact hb i (by rw [htd];exact hi)
 ·rename_i ops i k htd
  simp only [Option.some.injEq,Prod.mk.injEq] at h
  obtain ⟨rfl,rfl,rfl⟩:=h
  exact ⟨fun h => h,fun _ => goes_to hm (bdk htd) fun ι b a cs w _ => by rw [htd];exact stepR_region_end⟩
 ·rename_i ops i o rest k htd
  exact opC_ok hE hX hm htd h
 ·cases h
 ·rename_i k htd
  split at h
  ·rename_i l hro
   split at h
   ·rename_i L hg
    split at h
    ·rename_i hst
     simp only [Option.some.injEq,Prod.mk.injEq] at h
     obtain ⟨rfl,rfl,rfl⟩:=h
     refine ⟨fun h => h,fun _ ι fr us cs w hR => ?_⟩
     have ht:=hR.top
     have hfr:=ht.runs hm
     rw [htd] at hfr
     simp only [List.map_cons,concI] at hfr
     obtain ⟨r,hr,hs1,hp1,hS'⟩:=Sim.reloop hE hR.sim hg .busy L.pend
     have hrn : fr.roundOf = some (ι.loc l).1:=by rw [ht.ro];simp only [hro,Option.map_some]
     have hb:=stepR_beginRound (P:=P) (b:=fr) (a:={ tmps:=fr.tmps,defers:=fr.defers }) (k:=k.map (concI ι)) (cs:=us ++ cs) (w:=w) hrn (run_beginRound hr (by rw [hs1,hst]))
     rw [← hfr] at hb
     have hS2 : Sim pr w0 E.ng ι (μ.put l (.loop { L with st:=.busy })) (w.putObj (ι.loc l).1 (.loop { r with state:=.busy })):=by
      have : ({ r with state:=.busy,pending:=L.pend } : Loop) = { r with state:=.busy }:=by rw [← hp1]
      rw [this] at hS';exact hS'
     exact ⟨ι,_,us,_,.one hb,Ext.refl _ _,Nat.le_refl _,hS2,ht.to (bdk htd _ ht.btodo) hm,hR.up⟩
    ·cases h
   ·cases h
  ·cases h
 ·rename_i l k htd
  split at h
  ·rename_i L hg
   have fin : L.st ≠ .busy → some ((⟨{ A with todo:=(L.pend.map AItem.code).toList ++ k },up,μ.put l (.loop { L with st:=.exhausted })⟩ : Conf),orc,O) = some (C',orc',O') → (O' → O)∧(O' → Goes P pr w0 E.ng ⟨A,up,μ⟩ C'):=by
    intro hst h
    simp only [Option.some.injEq,Prod.mk.injEq] at h
    obtain ⟨rfl,rfl,rfl⟩:=h
    refine ⟨fun h => h,fun _ ι fr us cs w hR => ?_⟩
    have ht:=hR.top
    have hfr:=ht.runs hm
    rw [htd] at hfr
    simp only [List.map_cons,concI] at hfr
    obtain ⟨r,hr,hs1,hp1,hS'⟩:=Sim.reloop hE hR.sim hg .exhausted L.pend
    have hb:=stepR_endRangeFunc (P:=P) (b:=fr) (a:={ tmps:=fr.tmps,defers:=fr.defers }) (k:=k.map (concI ι)) (cs:=us ++ cs) (w:=w) (run_endLoop hr (by rw [hs1];exact hst))
    rw [← hfr] at hb
    have hS2 : Sim pr w0 E.ng ι (μ.put l (.loop { L with st:=.exhausted })) (w.putObj (ι.loc l).1 (.loop { r with state:=.exhausted })):=by
     have : ({ r with state:=.exhausted,pending:=L.pend } : Loop) = { r with state:=.exhausted }:=by rw [← hp1]
     rw [this] at hS';exact hS'
    have hto : (r.pending.map Go.Item.code).toList ++ k.map (concI ι) = ((L.pend.map AItem.code).toList ++ k).map (concI ι):=by
     rw [hp1]
     cases L.pend <;> rfl
    rw [hto] at hb
    refine ⟨ι,_,us,_,.one hb,Ext.refl _ _,Nat.le_refl _,hS2,ht.to (fun i hi => ?_) hm,hR.up⟩
    rcases List.mem_append.1 hi with hi | hi
    ·cases hp : L.pend with
     | none => rw [hp] at hi;simp at hi
     | some c => rw [hp] at hi;simp at hi;subst hi;trivial
    ·exact bdk htd _ ht.btodo i hi
   cases hst : L.st with
   | busy => rw [hst] at h;cases h
   | _ => rw [hst] at h;exact fin (by rw [hst];simp) h
  ·cases h
theorem resC_ok {A : AFr} {μ : Hp} {v : Value} {ι : Ren} {f : Frame} {w : World} (hr : resC E A μ = some v) (hS : Sim pr w0 E.ng ι μ w) (hF : FrameR ι μ.next A f) :
  ∃ fn,P.funcs[f.fn]? = some fn∧(results fn f.tmps).run P w = .ok (conc ι v) w∧Bd μ.next v:=by
 unfold resC at hr
 cases hf : E.fn A.fn with
 | none => rw [hf] at hr;cases hr
 | some fn =>
  rw [hf] at hr
  simp only [Option.map_eq_some_iff] at hr
  obtain ⟨vs,hvs,rfl⟩:=hr
  obtain ⟨h1,h2⟩:=results_ok hE hS hF.fr hvs
  exact ⟨fn,by rw [hF.fn];exact (hE.fn _ _ hf).1,h1,h2⟩
omit hE in
theorem settle_conc (ι : Ren) (m : FrameMode) : settle (concM ι m) = concM ι (settle m):=by
 cases m with
 | panicking ch =>
  cases ch with
  | nil => rfl
  | cons e older =>
   obtain ⟨v,rec,ge⟩:=e
   cases rec with
   | false => rfl
   | true =>
    simp only [concM,List.map_cons,concP,settle]
    have hd : (older.map (concP ι)).dropWhile (fun x => !x.goexit) = (older.dropWhile (fun x => !x.goexit)).map (concP ι):=by
     induction older with
     | nil => rfl
     | cons a l ih =>
      simp only [List.map_cons,List.dropWhile_cons]
      have : (concP ι a).goexit = a.goexit:=rfl
      rw [this]
      cases a.goexit <;> simp [ih]
    rw [hd]
    cases older.dropWhile (fun x => !x.goexit) <;> rfl
 | _ => rfl
omit hE in
theorem BdM.settle {N : Nat} {m : FrameMode} (h : BdM N m) : BdM N (Go.settle m):=by
 cases m with
 | panicking ch =>
  cases ch with
  | nil => exact h
  | cons e older =>
   obtain ⟨v,rec,ge⟩:=e
   cases rec with
   | false => exact h
   | true =>
    simp only [Go.settle]
    have hsub : ∀ e ∈ older.dropWhile (fun x => !x.goexit),Bd N e.v:=fun e he => h e (List.mem_cons_of_mem _ (List.dropWhile_sublist _ |>.mem he))
    cases hd : older.dropWhile (fun x => !x.goexit) with
    | nil => trivial
    | cons a l => rw [hd] at hsub;exact hsub
 | _ => trivial
theorem unwindC_ok {A : AFr} {up : List AFr} {μ : Hp} {orc : List Ans} {O : Prop} {C' : Conf} {orc' : List Ans} {O' : Prop}
  (hm : A.mode ≠ .run) (h : unwindC E A up μ orc O = some (C',orc',O')) : O' = O∧orc' = orc∧Goes P pr w0 E.ng ⟨A,up,μ⟩ C':=by
 have modes : ∀ {ι : Ren} {fr : Frame},FrameR ι μ.next A fr → fr.mode ≠ .run:=by
  intro ι fr ht hr
  rw [ht.mode] at hr
  cases hA : A.mode with
  | run => exact hm hA
  | returning => rw [hA] at hr;cases hr
  | panicking ch => rw [hA] at hr;cases hr
 unfold unwindC at h
 split at h
 ·rename_i d ds hdf
  split at h
  ·rename_i r htar
   split at h
   ·rename_i hg
    simp only [Option.some.injEq,Prod.mk.injEq] at h
    obtain ⟨rfl,rfl,rfl⟩:=h
    refine ⟨rfl,rfl,fun ι fr us cs w hR => ?_⟩
    have ht:=hR.top
    obtain ⟨h0,h1⟩:=hR.sim.obj r _ hg
    have hd : fr.defers = concD ι d :: ds.map (concD ι):=by have:=ht.fr.df;simp only at this;rw [this,hdf];rfl
    have hct : (concD ι d).target = .collected (ι.loc r).1:=by simp only [concD,htar]
    have hrun:=run_takeDeferred (P:=P) h1
    have hstep : step P (lone fr (us ++ cs) w) = .next (lone { fr with defers:=ds.map (concD ι) } (us ++ cs) (w.putObj (ι.loc r).1 (.deferred none))):=by
     refine step_lone_go ?_
     have hmo:=modes ht
     generalize concD ι d = cd at hct hd
     obtain ⟨dt,da⟩:=cd
     simp only at hct
     subst hct
     cases hmode : fr.mode with
     | run => exact absurd hmode hmo
     | returning => simp [stepG,unwind,hmode,hd,Sem.runT_eq,hrun]
     | panicking ch => simp [stepG,unwind,hmode,hd,Sem.runT_eq,hrun]
    refine ⟨ι,_,us,_,.one hstep,Ext.refl _ _,Nat.le_refl _,?_,?_,hR.up⟩
    ·exact hR.sim.turn hg rfl rfl rfl rfl (by simp) (fun k hk => World.putObj_heap_other hk) ⟨h0,World.putObj_heap_same (hR.sim.blk r _ hg rfl)⟩
    ·exact ⟨ht.fn,⟨ht.fr.size,ht.fr.lim,ht.fr.tmp,rfl,fun e he => ht.fr.bd e (by rw [hdf];exact List.mem_cons_of_mem _ he)⟩,ht.todo,ht.mode,ht.kind,ht.ro,ht.bro,ht.btodo,ht.bmode⟩
   ·cases h
  ·rename_i f captured htar
   split at h
   ·rename_i B hB
    simp only [Option.some.injEq,Prod.mk.injEq] at h
    obtain ⟨rfl,rfl,rfl⟩:=h
    refine ⟨rfl,rfl,fun ι fr us cs w hR => ?_⟩
    have ht:=hR.top
    have hd : fr.defers = concD ι d :: ds.map (concD ι):=by have:=ht.fr.df;simp only at this;rw [this,hdf];rfl
    have hct : (concD ι d).target = .fn (.func f) (captured.map (conc ι)):=by simp only [concD,htar]
    have hg : (E.fn f).isSome = true:=by
     unfold enterA at hB
     cases hf : E.fn f with
     | none => rw [hf] at hB;cases hB
     | some fn => rfl
    obtain ⟨fn,hfn⟩:=Option.isSome_iff_exists.1 hg
    have hinv : (invoke (concD ι d).target (concD ι d).args).run P w = .ok (.enter f ((concD ι d).args ++ captured.map (conc ι))) w:=by
     rw [hct]
     simp only [invoke]
     exact callFunc_enter hE hfn _ _
    have hs:=step_defer (P:=P) (fr:=fr) (cs:=us ++ cs) (modes ht) hd hct hinv
    have hargs : (concD ι d).args ++ captured.map (conc ι) = ((d.args.toList ++ captured.toList).map (conc ι)).toArray:=by
     apply Array.ext'
     simp [concD]
    rw [hargs] at hs
    have hbd:=ht.fr.bd d (by rw [hdf];exact List.mem_cons_self ..)
    refine ⟨ι,_,_ :: us,w,.one hs,Ext.refl _ _,Nat.le_refl _,hR.sim,enterA_ok hE hB ?_,.cons ?_ hR.up⟩
    ·intro x hx
     obtain ⟨b1,b2⟩:=hbd
     rw [htar] at b2
     simp only [List.mem_append] at hx
     rcases hx with hx | hx
     ·exact b1 x (by simpa using hx)
     ·exact b2 x (by simpa using hx)
    ·exact ⟨ht.fn,⟨ht.fr.size,ht.fr.lim,ht.fr.tmp,rfl,fun e he => ht.fr.bd e (by rw [hdf];exact List.mem_cons_of_mem _ he)⟩,ht.todo,ht.mode,ht.kind,ht.ro,ht.bro,ht.btodo,ht.bmode⟩
   ·cases h
  ·cases h
 ·rename_i hdf
  have hd : ∀ {ι : Ren} {fr : Frame},FrameR ι μ.next A fr → fr.defers = []:=by
   intro ι fr ht
   have:=ht.fr.df
   simp only at this
   rw [this,hdf];rfl
  split at h
  ·rename_i c rest hmo
   split at h
   ·rename_i v hk hres
    obtain ⟨rfl,rfl,hμ,hback⟩:=back_ok (pr:=pr) (w0:=w0) (ng:=E.ng) h
    refine ⟨rfl,rfl,fun ι fr us cs w hR => ?_⟩
    have ht:=hR.top
    obtain ⟨fn,hf1,hf2,hbv⟩:=resC_ok hE hres hR.sim ht
    obtain ⟨u,us',hus,hrel⟩:=hback hR.sim hR.up hbv
    have hus : us = u :: us':=hus
    subst hus
    have hs:=step_leave_returned (P:=P) (fr:=fr) (c:=u) (cs:=us' ++ cs) (w:=w) (v:=conc ι v) ⟨by rw [ht.mode,hmo];rfl,hd ht,by rw [ht.kind];exact hk,fn,hf1,hf2⟩
    exact ⟨ι,_,us',w,.one hs,Ext.refl _ _,by rw [hμ];exact Nat.le_refl _,hrel⟩
   ·rename_i v hk hres
    simp only [Option.some.injEq,Prod.mk.injEq] at h
    obtain ⟨rfl,rfl,rfl⟩:=h
    refine ⟨rfl,rfl,fun ι fr us cs w hR => ?_⟩
    have ht:=hR.top
    obtain ⟨fn,hf1,hf2,hbv⟩:=resC_ok hE hres hR.sim ht
    have hup:=hR.up
    cases hup with
    | cons hc hrest =>
     rename_i fc fs
     have hs:=step_going_returned (P:=P) (fr:=fr) (c:=fc) (cs:=fs ++ cs) (w:=w) (v:=conc ι v) (by rw [ht.kind];exact hk) ⟨by rw [ht.mode,hmo];rfl,hd ht,fn,hf1,hf2⟩
     refine ⟨ι,_,fs,w,.one hs,Ext.refl _ _,Nat.le_refl _,hR.sim,?_,hrest⟩
     exact ⟨hc.fn,hc.fr,hc.todo,by simp only [hc.mode,settle_conc],hc.kind,hc.ro,hc.bro,hc.btodo,hc.bmode.settle⟩
   ·cases h
  ·rename_i ch c rest hmo
   simp only [Option.some.injEq,Prod.mk.injEq] at h
   obtain ⟨rfl,rfl,rfl⟩:=h
   refine ⟨rfl,rfl,fun ι fr us cs w hR => ?_⟩
   have ht:=hR.top
   have hup:=hR.up
   cases hup with
   | cons hc hrest =>
    rename_i fc fs
    have hmd : fr.mode = .panicking (ch.map (concP ι)):=by rw [ht.mode,hmo];rfl
    have hs : step P (lone fr (fc :: (fs ++ cs)) w) = .next (lone (fc.raise (ch.map (concP ι))) (fs ++ cs) w):=by
     refine step_lone_go ?_
     have hcat : fr.catches P = false:=by
      unfold Frame.catches
      split
      ·rename_i htd
       have h2:=ht.todo
       rw [htd] at h2
       cases hA : A.todo with
       | nil => rw [hA] at h2;cases h2
       | cons x xs => rw [hA] at h2;simp only [List.map_cons,List.cons.injEq] at h2;cases x <;> simp [concI] at h2
      ·rfl
     simp [stepG,unwind,hcat,hmd,hd ht]
    have hbm : ∀ e ∈ ch,Bd μ.next e.v:=by have:=ht.bmode;rw [hmo] at this;exact this
    exact ⟨ι,_,fs,w,.one hs,Ext.refl _ _,Nat.le_refl _,hR.sim,hc.raise hbm,hrest⟩
  ·cases h
theorem stepC_ok (hmix : P.follows .mixedOrders = true) {X : Par} (hX : ParOk P E pr w0 X) {C C' : Conf} {orc orc' : List Ans} {O O' : Prop} (h : stepC P E X C orc O = some (C',orc',O')) :
  (O' → O)∧(O' → Goes P pr w0 E.ng C C'):=by
 obtain ⟨A,up,μ⟩:=C
 unfold stepC at h
 split at h
 ·rename_i hm
  exact runC_ok hE hmix hX hm h
 ·rename_i hm
  obtain ⟨rfl,_,hg⟩:=unwindC_ok (pr:=pr) (w0:=w0) hE hm h
  exact ⟨id,fun _ => hg⟩
end
end Go.Abs
end
section
namespace Go.Abs
def Nil (r : Stp) (O : Prop) : Prop:=∀ C' orc' O',r = some (C',orc',O') → O → orc' = []∧O'
theorem Nil.none (O : Prop) : Nil none O:=fun _ _ _ h => by cases h
theorem Nil.some (C : Conf) (O : Prop) : Nil (some (C,[],O)) O:=fun _ _ _ h hO => by
 simp only [Option.some.injEq,Prod.mk.injEq] at h
 obtain ⟨_,rfl,rfl⟩:=h
 exact ⟨rfl,hO⟩
theorem back_nil (v : Value) (up : List AFr) (μ : Hp) (O : Prop) : Nil (back v up μ [] O) O:=by
 unfold back
 split
 ·split
  ·exact .some _ _
  ·exact .none _
 ·exact .none _
def Asks0 (S : FuncId → Option SumO) : Prop:=∀ f g,S f = some g → ∀ args μ e μ' p,g args μ = some (e,μ',p) → p
theorem callC_nil (E : Env) {X : Par} (hS : Asks0 X.S) (A : AFr) (up : List AFr) (f : FuncId) (args : List Value) (μ : Hp) (O : Prop) : Nil (callC E X A up f args μ [] O) O:=by
 unfold callC
 split
 ·rename_i g hg
  split
  ·rename_i v μ' p hr
   intro C' orc' O' h hO
   exact back_nil v _ _ _ C' orc' O' h ⟨hO,hS f g hg _ _ _ _ _ hr⟩
  ·rename_i ch μ' p hr
   intro C' orc' O' h hO
   exact Nil.some _ _ C' orc' O' h ⟨hO,hS f g hg _ _ _ _ _ hr⟩
  ·exact .none _
 ·split
  ·exact .some _ _
  ·exact .none _
theorem leaveC_nil (A : AFr) (up : List AFr) (μ : Hp) (jump : Option Code) (O : Prop) : Nil (leaveC A up μ jump [] O) O:=by
 unfold leaveC
 split
 ·split
  ·exact .some _ _
  ·exact .some _ _
  ·exact .none _
 ·split
  ·exact back_nil _ _ _ _
  ·exact .none _
theorem wantO_nil (ops : Array Oper) (fr : Fr) (o : Oper) (O : Prop) : wantO ops fr o [] O = (wantedA ops fr o,[],O):=by
 unfold wantO
 cases hg : o.guard with
 | none => simp [wantedA,hg]
 | some q => simp [pull]
theorem opC_nil (P : Program) (E : Env) {X : Par} (hS : Asks0 X.S) (A : AFr) (up : List AFr) (μ : Hp) (ops : Array Oper) (i : Nat) (o : Oper) (rest : List Oper) (k : List AItem) (O : Prop) :
  Nil (opC P E X A up μ ops i o rest k [] O) O:=by
 unfold opC
 cases (A.ro.isSome && isDefer o.op) with
 | true => exact .none _
 | false =>
  rw [cond_false,wantO_nil]
  split
  ·exact .none _
  ·rename_i heq
   simp only [Prod.mk.injEq] at heq
   obtain ⟨_,rfl,rfl⟩:=heq
   split
   ·exact .some _ _
   ·exact .none _
  ·rename_i heq
   simp only [Prod.mk.injEq] at heq
   obtain ⟨_,rfl,rfl⟩:=heq
   split
   ·unfold roundC
    split
    ·split
     ·exact .some _ _
     ·exact .none _
    ·exact .none _
   ·unfold recoverC
    split
    ·split
     ·split
      ·exact .some _ _
      ·exact .none _
     ·split
      ·exact .some _ _
      ·exact .none _
     ·exact .none _
    ·exact .none _
   ·exact callC_nil E hS _ _ _ _ _ _
   ·split
    ·exact .some _ _
    ·exact .none _
   ·simp only [pull,opS]
    split
    ·rename_i heq
     simp only [Option.some.injEq,Prod.mk.injEq] at heq
     obtain ⟨_,rfl⟩:=heq
     split
     ·exact .some _ _
     ·exact .none _
    ·rename_i heq
     simp only [Option.some.injEq,Prod.mk.injEq] at heq
     obtain ⟨_,rfl⟩:=heq
     split
     ·exact .some _ _
     ·exact .none _
    ·rename_i heq
     simp only [Option.some.injEq,Prod.mk.injEq] at heq
     obtain ⟨_,rfl⟩:=heq
     exact .some _ _
    ·rename_i heq
     simp only [Option.some.injEq,Prod.mk.injEq] at heq
     obtain ⟨_,rfl⟩:=heq
     exact callC_nil E hS _ _ _ _ _ _
    ·exact .none _
theorem rangeC_nil (E : Env) (A : AFr) (up : List AFr) (μ : Hp) (f : Operand) (params : Array Tmp) (assign body : Code) (k : List AItem) (O : Prop) : Nil (rangeC E A up μ f params assign body k [] O) O:=by
 unfold rangeC
 simp only
 split
 ·split
  ·split
   ·split
    ·exact .some _ _
    ·exact .none _
   ·exact .none _
  ·exact .none _
 ·exact .none _
theorem codeC_nil (P : Program) (E : Env) {X : Par} (A : AFr) (up : List AFr) (μ : Hp) (k : List AItem) (O : Prop) (c : Code) : Nil (codeC P E X A up μ k [] O c) O:=by
 cases c with
 | skip | label _ | seq _ _ | block _ _ | loop _ | scope _ => exact .some _ _
 | cond x a b =>
  simp only [codeC,pull]
  cases okOpnd E A.fr.ev x with
  | false => exact .none _
  | true =>
   rw [cond_true]
   split
   ·split <;> exact .some _ _
   ·exact .none _
 | exit id =>
  simp only [codeC]
  split
  ·exact .some _ _
  ·exact leaveC_nil _ _ _ _ _
 | goto l =>
  simp only [codeC]
  split
  ·exact .some _ _
  ·exact .none _
 | ret => simp only [codeC];exact leaveC_nil _ _ _ _ _
 | rangeFunc f params assign body => simp only [codeC];exact rangeC_nil _ _ _ _ _ _ _ _ _ _
 | refuse w => exact .none _
 | region rid ops draw =>
  cases draw with
  | false => exact .some _ _
  | true =>
   simp only [codeC]
   cases (A.ro.isNone || ops.toList.all fun o => !isDefer o.op) with
   | false => exact .none _
   | true =>
    rw [cond_true]
    split
    ·exact .some _ _
    ·split
     ·exact .some _ _
     ·exact .none _
theorem stepC_nil (P : Program) (E : Env) {X : Par} (hS : Asks0 X.S) (C : Conf) (O : Prop) : Nil (stepC P E X C [] O) O:=by
 unfold stepC
 split
 ·unfold runC
  split
  ·exact leaveC_nil _ _ _ _ _
  ·exact codeC_nil P E _ _ _ _ _ _
  ·exact .some _ _
  ·exact .some _ _
  ·exact .some _ _
  ·exact .some _ _
  ·exact opC_nil P E hS _ _ _ _ _ _ _ _ _
  ·exact .none _
  ·split
   ·split
    ·split
     ·exact .some _ _
     ·exact .none _
    ·exact .none _
   ·exact .none _
  ·split
   ·split
    ·exact .none _
    ·exact .some _ _
   ·exact .none _
 ·unfold unwindC
  split
  ·split
   ·split
    ·exact .some _ _
    ·exact .none _
   ·split
    ·exact .some _ _
    ·exact .none _
   ·exact .none _
  ·split
   ·split
    ·exact back_nil _ _ _ _
    ·exact .some _ _
    ·exact .none _
   ·exact .some _ _
   ·exact .none _
theorem goC_nil (P : Program) (E : Env) {X : Par} (hS : Asks0 X.S) (f : FuncId) : ∀ (n : Nat) (C : Conf) (O : Prop) {e : Ending} {μ' : Hp} {orc' : List Ans} {O' : Prop},goC P E X f n C [] O = some (e,μ',orc',O') → O → O':=by
 intro n
 induction n with
 | zero => intro C O e μ' orc' O' h;cases h
 | succ n ih =>
  intro C O e μ' orc' O' h hO
  simp only [goC] at h
  split at h
  ·simp only [Option.some.injEq,Prod.mk.injEq] at h
   obtain ⟨_,_,_,rfl⟩:=h
   exact hO
  ·split at h
   ·rename_i C1 orc1 O1 hs
    obtain ⟨rfl,h1⟩:=stepC_nil P E hS C O _ _ _ hs hO
    exact ih C1 O1 h h1
   ·cases h
section
variable {P : Program} {E : Env} {pr : Prot} {w0 : World} (hE : EnvOk P E)
include hE
theorem goC_ok (hmix : P.follows .mixedOrders = true) {X : Par} (hX : ParOk P E pr w0 X) (f : FuncId) : ∀ (n : Nat) (C : Conf) (orc : List Ans) (O : Prop) {e : Ending} {μ' : Hp} {orc' : List Ans} {O' : Prop},goC P E X f n C orc O = some (e,μ',orc',O') →
  (O' → O)∧(O' → ∃ D,endC E f D = some (e,μ')∧Goes P pr w0 E.ng C D):=by
 intro n
 induction n with
 | zero => intro C orc O e μ' orc' O' h;cases h
 | succ n ih =>
  intro C orc O e μ' orc' O' h
  simp only [goC] at h
  split at h
  ·rename_i e1 μ1 he
   simp only [Option.some.injEq,Prod.mk.injEq] at h
   obtain ⟨rfl,rfl,_,rfl⟩:=h
   exact ⟨id,fun _ => ⟨C,he,Goes.refl C⟩⟩
  ·split at h
   ·rename_i C1 orc1 O1 hs
    obtain ⟨h1,h2⟩:=stepC_ok (pr:=pr) (w0:=w0) hE hmix hX hs
    obtain ⟨g1,g2⟩:=ih C1 orc1 O1 h
    refine ⟨fun hO => h1 (g1 hO),fun hO => ?_⟩
    obtain ⟨D,hD,hg⟩:=g2 hO
    exact ⟨D,hD,(h2 (g1 hO)).trans hg⟩
   ·cases h
theorem calls_of_goes {f : FuncId} {args : List Value} {μ μ' : Hp} {C D : Conf} {e : Ending} (hs : startC E f args μ = some C) (hg : Goes P pr w0 E.ng C D) (hd : endC E f D = some (e,μ')) {ι : Ren} {w : World} (hS : Sim pr w0 E.ng ι μ w) (hb : ∀ x ∈ args,Bd μ.next x) :
  Calls P f (args.map (conc ι)).toArray w fun e' w' => ∃ ι',Ext μ.next ι ι'∧μ.next ≤ μ'.next∧Sim pr w0 E.ng ι' μ' w'∧EndRel ι' μ'.next e e':=by
 unfold startC at hs
 split at hs
 ·rename_i A hA
  simp only [Option.some.injEq] at hs
  subst hs
  intro cs
  obtain ⟨ι',fr',us',w',hst,hx,hl,hR⟩:=hg ι _ [] cs w ⟨hS,enterA_ok hE hA hb,.nil⟩
  unfold endC at hd
  split at hd
  ·rename_i hup hmo hdf hki
   split at hd
   ·rename_i v hfn hres
    simp only [Option.some.injEq,Prod.mk.injEq] at hd
    obtain ⟨rfl,rfl⟩:=hd
    obtain ⟨fn,hf1,hf2,hbv⟩:=resC_ok hE hres hR.sim hR.top
    have hus : us' = []:=by have:=hR.up;rw [hup] at this;cases this;rfl
    subst hus
    have hdd : fr'.defers = []:=by have:=hR.top.fr.df;simp only at this;rw [this,hdf];rfl
    refine ⟨.returned (conc ι' v),w',fr',⟨ι',hx,hl,hR.sim,rfl,hbv⟩,hst,by rw [hR.top.fn];exact beq_yes hfn,by rw [hR.top.mode,hmo];rfl,hdd,by rw [hR.top.kind];exact hki,fn,hf1,hf2⟩
   ·cases hd
  ·rename_i ch hup hmo hdf hki
   cases hc : (Nat.beq D.top.fn f && (E.fn f).isSome) with
   | false => rw [hc] at hd;cases hd
   | true =>
    rw [hc] at hd
    simp only [cond_true,Option.some.injEq,Prod.mk.injEq] at hd
    obtain ⟨rfl,rfl⟩:=hd
    simp only [Bool.and_eq_true] at hc
    have hus : us' = []:=by have:=hR.up;rw [hup] at this;cases this;rfl
    subst hus
    have hdd : fr'.defers = []:=by have:=hR.top.fr.df;simp only at this;rw [this,hdf];rfl
    obtain ⟨fn,hfn⟩:=Option.isSome_iff_exists.1 hc.2
    have hfe : fr'.fn = f:=by rw [hR.top.fn];exact beq_yes hc.1
    have hbm : ∀ e ∈ ch,Bd D.μ.next e.v:=by have:=hR.top.bmode;rw [hmo] at this;exact this
    exact ⟨.panicked (ch.map (concP ι')),w',fr',⟨ι',hx,hl,hR.sim,rfl,hbm⟩,hst,hfe,by rw [hR.top.mode,hmo];rfl,hdd,fn,by rw [hfe];exact (hE.fn _ _ hfn).1⟩
  ·cases hd
 ·cases hs
theorem callW_ok (hmix : P.follows .mixedOrders = true) {X : Par} (hX : ParOk P E pr w0 X) {n : Nat} {f : FuncId} {args : List Value} {μ μ' : Hp} {orc orc' : List Ans} {e : Ending} {O' : Prop} (h : callW P E X n f args μ orc = some (e,μ',orc',O')) (hO : O') {ι : Ren} {w : World} (hS : Sim pr w0 E.ng ι μ w) (hb : ∀ x ∈ args,Bd μ.next x) :
  Calls P f (args.map (conc ι)).toArray w fun e' w' => ∃ ι',Ext μ.next ι ι'∧μ.next ≤ μ'.next∧Sim pr w0 E.ng ι' μ' w'∧EndRel ι' μ'.next e e':=by
 unfold callW at h
 cases hs : startC E f args μ with
 | none => rw [hs] at h;cases h
 | some C =>
  rw [hs] at h
  obtain ⟨_,h2⟩:=goC_ok (pr:=pr) (w0:=w0) hE hmix hX f n C orc True h
  obtain ⟨D,hD,hg⟩:=h2 hO
  exact calls_of_goes hE hs hg hD hS hb
omit hE in
theorem ofPlain_asks (S : Plain) : Asks0 (ofPlain S):=by
 intro f g hg args μ e μ' p hr
 unfold ofPlain at hg
 simp only [Option.map_eq_some_iff] at hg
 obtain ⟨s,_,rfl⟩:=hg
 simp only [Option.map_eq_some_iff,Prod.mk.injEq] at hr
 obtain ⟨q,_,_,_,rfl⟩:=hr
 trivial
def ExtOk (P : Program) (pr : Prot) (w0 : World) (ng : Nat) (XX : FuncId → Option (List Value → Hp → Option Value)) : Prop :=
 ∀ f g,XX f = some g → ∀ args μ v,g args μ = some v → ∀ ι w,Sim pr w0 ng ι μ w → (∀ x ∈ args,Bd μ.next x) → (callFunc f (args.map (conc ι)).toArray).run P w = .ok (.value (conc ι v)) w∧Bd μ.next v
omit hE in
theorem ofPlain_ok {S : Plain} (h : SumsOk P pr w0 E.ng S) : ∀ f g,ofPlain S f = some g → SumOk P pr w0 E.ng f g:=by
 intro f g hg args μ e μ' p hr hp ι w hS hb
 unfold ofPlain at hg
 simp only [Option.map_eq_some_iff] at hg
 obtain ⟨s,hs,rfl⟩:=hg
 simp only [Option.map_eq_some_iff,Prod.mk.injEq] at hr
 obtain ⟨q,hq,rfl,rfl,_⟩:=hr
 exact h f s hs args μ q.1 q.2 hq ι w hS hb
theorem callN_ok (hmix : P.follows .mixedOrders = true) {S : Plain} (hSm : ∀ pr w0,SumsOk P pr w0 E.ng S) {XX : FuncId → Option (List Value → Hp → Option Value)} (hXX : ∀ pr w0,ExtOk P pr w0 E.ng XX) (n : Nat) : ∀ d pr w0,CallsOk P pr w0 E.ng (callN P E S XX d n):=by
 intro d
 induction d with
 | zero => intro pr w0 f args μ e μ' h;cases h
 | succ d ih =>
  intro pr w0 f args μ e μ' h ι w hS hb
  simp only [callN] at h
  split at h
  ·rename_i g hg
   exact hSm pr w0 f g hg args μ e μ' h ι w hS hb
  ·cases hc : callW P E ⟨ofPlain S,XX,callN P E S XX d n⟩ n f args μ [] with
   | none => rw [hc] at h;cases h
   | some q =>
    obtain ⟨e1,μ1,orc1,O1⟩:=q
    rw [hc] at h
    simp only [Option.some.injEq,Prod.mk.injEq] at h
    obtain ⟨rfl,rfl⟩:=h
    have hX : ParOk P E pr w0 ⟨ofPlain S,XX,callN P E S XX d n⟩:=⟨ofPlain_ok (hSm pr w0),hXX pr w0,ih⟩
    refine callW_ok hE hmix hX hc ?_ hS hb
    unfold callW at hc
    cases hs : startC E f args μ with
    | none => rw [hs] at hc;cases hc
    | some C => rw [hs] at hc;exact goC_nil P E (ofPlain_asks S) f n C True hc trivial
end
theorem calls_of_closed {P : Program} {E : Env} (hE : EnvOk P E) (hmix : P.follows .mixedOrders = true) {S : Plain} (hSm : ∀ pr w0,SumsOk P pr w0 E.ng S) {XX : FuncId → Option (List Value → Hp → Option Value)} (hXX : ∀ pr w0,ExtOk P pr w0 E.ng XX)
  {d n : Nat} {f : FuncId} {args : List Value} {v : Value} {μ : Hp} (h : answer (callN P E S XX d n f args μ) = some v) (ha : ∀ x ∈ args,Pure x) (hv : Pure v) {w : World} {ι : Ren} (hS : Sim Prot.all w E.ng ι μ w) :
  Calls P f args.toArray w fun e w' => e = .returned v∧RowKit.Below w.heap.size w w':=by
 unfold answer at h
 split at h
 ·rename_i v' μ' hr
  simp at h;subst h
  have hc:=callN_ok hE hmix hSm hXX n d _ _ f args μ _ _ hr _ w hS (fun x hx => Bd.mono (Nat.zero_le _) _ (ha x hx ι).2)
  rw [show args.map (conc ι) = args by
   conv => rhs;rw [← List.map_id args]
   exact List.map_congr_left fun x hx => (ha x hx _).1] at hc
  refine hc.mono ?_
  rintro e w' ⟨ι',hx,hl,hS,he⟩
  refine ⟨?_,hS.below⟩
  cases e with
  | returned v' => obtain ⟨h1,_⟩:=he;rw [h1,(hv ι').1]
  | _ => exact he.elim
 ·simp at h
end Go.Abs
end
