/-
  The abstract machine: a computable interpreter over abstract heaps, and that it is right of the model's runs: part C.
-/
import Derived.Test.YthopfmokkpoabaaGreatDoorBmB
import Derived.KernelRfl
import GoSem.ClaimJoined
import Derived.ChangeArms
import Derived.DataReads
import Derived.Deep.Slices
set_option linter.unusedVariables false
set_option linter.unusedSimpArgs false
set_option linter.unusedSectionVars false
section
namespace Go.Abs
inductive Ans where
 | go
 | skip (n : Nat)
 | b (d : Bool)
 | sym
 | v (x : Value)
 | l (xs : List Value)
 | dp (ds : List Deep)
 | grow (row : Bool)
 | fit
 | same
 | str (b : ByteArray)
 | mk (n : Nat)
 | asMix (n : Nat)
 | frz (n : Nat)
 | nm (n off : Nat) (es : List Deep)
 | kn (d : Nat)
def pull : List Ans → Ans × List Ans
 | [] => (.go,[])
 | .skip 0 :: r => pull r
 | .skip (n + 1) :: r => (.go,.skip n :: r)
 | a :: r => (a,r)
def andO (O : Prop) : Option Prop → Prop
 | none => O
 | some p => O∧p
theorem andO_left {O : Prop} {q : Option Prop} (h : andO O q) : O:=by
 cases q with
 | none => exact h
 | some p => exact h.1
theorem andO_right {O : Prop} {q : Option Prop} (h : andO O q) : ∀ p,q = some p → p:=by
 intro p hp;subst hp;exact h.2
def firstS (s n : Nat) (x : Value) (μ : Hp) : Option (List Value × Prop) :=
 match x with
 | .slice none _ _ => some ([],True)
 | .slice (some a) _ _ => match a.spot,μ.cells a.block with
  | none,some vs => some ((vs.drop a.off).take (n * s),a.off + n * s ≤ vs.length)
  | _,_ => none
 | .string b => some (intList (b.data.toList.take n),True)
 | .chan (some wd) => match wordAt μ wd with
  | some (len,r) => match μ.cells r with
   | some vs => some ((vs.drop 0).take (n * s),0 + n * s ≤ vs.length∧n ≤ len)
   | none => none
  | none => none
 | _ => none
theorem firstS_ok {s n : Nat} {x : Value} {μ : Hp} {xs : List Value} {p : Prop} (h : firstS s n x μ = some (xs,p)) (hp : p) : firstA s n x μ = some xs:=by
 unfold firstS at h
 unfold firstA
 split at h
 ·simp only [Option.some.injEq,Prod.mk.injEq] at h;rw [← h.1]
 ·split at h
  ·rename_i vs hsp hc
   simp only [Option.some.injEq,Prod.mk.injEq] at h
   obtain ⟨rfl,rfl⟩:=h
   cases n with
   | zero => simp
   | succ n =>
    simp only [hsp,hc]
    rw [show Nat.beq (List.take ((n + 1) * s) (List.drop _ vs)).length ((n + 1) * s) = true from by rw [List.length_take,List.length_drop,Nat.min_eq_left (by omega)];exact Nat.beq_refl _,cond_true]
  ·cases h
 ·simp only [Option.some.injEq,Prod.mk.injEq] at h;rw [← h.1]
 ·split at h
  ·rename_i len r hw
   split at h
   ·rename_i vs hc
    simp only [Option.some.injEq,Prod.mk.injEq] at h
    obtain ⟨rfl,rfl⟩:=h
    cases n with
    | zero => simp [hw]
    | succ n =>
     simp only [hw,hc]
     rw [Nat.ble_eq_true_of_le hp.2,show Nat.beq (List.take ((n + 1) * s) (List.drop 0 vs)).length ((n + 1) * s) = true from by rw [List.length_take,List.length_drop,Nat.min_eq_left (by omega)];exact Nat.beq_refl _,Bool.and_self,cond_true]
   ·cases h
  ·cases h
 ·cases h
def putAt {α : Type} (vs : List α) (o : Nat) (xs : List α) : List α:=vs.take o ++ (xs ++ vs.drop (o + xs.length))
theorem setAt_putAt {α : Type} : ∀ (vs : List α) (o : Nat) (xs : List α),o + xs.length ≤ vs.length → setAt vs o xs = some (putAt vs o xs)
 | vs,o,[],h => by
  have e : setAt vs o [] = some vs:=by cases vs <;> rfl
  rw [e];simp [putAt]
 | [],o,x :: xs,h => by simp at h
 | v :: vs,0,x :: xs,h => by
  simp only [List.length_cons] at h
  simp only [setAt,setAt_putAt vs 0 xs (by omega)]
  simp [putAt]
 | v :: vs,o + 1,x :: xs,h => by
  simp only [List.length_cons] at h
  simp only [setAt,setAt_putAt vs o (x :: xs) (by simp only [List.length_cons];omega)]
  simp [putAt,Nat.add_right_comm o 1]
def storeS (b o : Nat) (xs : List Value) (μ : Hp) : Option (Hp × Prop) :=
 match μ.get b with
 | some (.cells vs es) => some (μ.put b (.cells (putAt vs o xs) es),(o + xs.length ≤ vs.length)∧xs.all one = true)
 | some (.mix ds es) => match deepVs μ xs with
  | some xd => some (μ.put b (.mix (putAt ds o xd) es),(o + xd.length ≤ ds.length)∧xs.all one = true)
  | none => none
 | _ => none
theorem storeS_ok {b o : Nat} {xs : List Value} {μ μ' : Hp} {p : Prop} (h : storeS b o xs μ = some (μ',p)) (hp : p) : storeCellsA ⟨b,o,none⟩ xs μ = some μ':=by
 unfold storeS at h
 split at h
 ·rename_i vs es hg
  simp only [Option.some.injEq,Prod.mk.injEq] at h
  obtain ⟨rfl,rfl⟩:=h
  simp only [storeCellsA,hp.2,hg,setAt_putAt _ _ _ hp.1,Option.map_some]
 ·rename_i ds es hg
  split at h
  ·rename_i xd hxd
   simp only [Option.some.injEq,Prod.mk.injEq] at h
   obtain ⟨rfl,rfl⟩:=h
   simp only [storeCellsA,hp.2,hg,hxd,setAt_putAt _ _ _ hp.1,Option.map_some]
  ·cases h
 ·cases h
def growS (E : Env) (e : TypeId) (base : Option Addr) (len cap n : Nat) (old new : List Value) (row : Bool) (μ : Hp) : Option (Value × Hp × Prop) :=
 match E.info e,zeroA E e with
 | some i,some z => bif Nat.blt 0 i.size && Nat.beq z.cells.size i.size then
   match base,row with
   | none,false => match μ.new (.cells (old ++ new) i.size) with
    | some (k,μ') => some (.slice (some ⟨k,0,none⟩) (len + n) (2 * (len + n) + 1),μ',(len + n) * i.bytes ≤ 140737488355328∧len + n ≤ 4611686018427387904∧old.length = len * i.size∧new.length = n * i.size∧new.all one = true)
    | none => none
   | some a,false => match μ.new (.cells (old ++ new) i.size) with
    | some (k,μ') => some (.slice (some ⟨k,0,none⟩) (len + n) (2 * (len + n) + 1),μ',(len + n) * i.bytes ≤ 140737488355328∧len + n ≤ 4611686018427387904∧old.length = len * i.size∧new.length = n * i.size∧new.all one = true∧capOpen cap = false)
    | none => none
   | some a,true => match a.spot,μ.get a.block with
    | none,some (.cells vs es) => match (μ.put a.block .dead).new (.cells (old ++ new) i.size) with
     | some (k,μ') => some (.slice (some ⟨k,0,none⟩) (len + n) (2 * (len + n) + 1),μ',(len + n) * i.bytes ≤ 140737488355328∧len + n ≤ 4611686018427387904∧old.length = len * i.size∧new.length = n * i.size∧new.all one = true∧capOpen cap = true∧es = i.size∧a.off + capOf cap * i.size = vs.length)
     | none => none
    | _,_ => none
   | none,true => none
  else none
 | _,_ => none
theorem growS_ok {E : Env} {e : TypeId} {base : Option Addr} {len cap n : Nat} {old new : List Value} {row : Bool} {μ μ' : Hp} {v : Value} {p : Prop} (h : growS E e base len cap n old new row μ = some (v,μ',p)) (hp : p) :
  growA E e base len cap n old new μ = some (v,μ'):=by
 unfold growS at h
 split at h
 ·rename_i i z hi hz
  cases hc : (Nat.blt 0 i.size && Nat.beq z.cells.size i.size) with
  | false => rw [hc] at h;cases h
  | true =>
   rw [hc,cond_true] at h
   simp only [Bool.and_eq_true] at hc
   have conds : ∀ {a b c d : Prop} ,((len + n) * i.bytes ≤ 140737488355328) → (len + n ≤ 4611686018427387904) → old.length = len * i.size → new.length = n * i.size → new.all one = true →
     (Nat.ble ((len + n) * i.bytes) 140737488355328 && Nat.blt 0 i.size && Nat.ble (len + n) 4611686018427387904 && Nat.beq old.length (len * i.size) && Nat.beq new.length (n * i.size) && new.all one && (zeroA E e).any fun z => Nat.beq z.cells.size i.size) = true:=by
    intro _ _ _ _ h1 h2 h3 h4 h5
    simp only [Bool.and_eq_true,hz,Option.any_some]
    exact ⟨⟨⟨⟨⟨⟨Nat.ble_eq_true_of_le h1,hc.1⟩,Nat.ble_eq_true_of_le h2⟩,by rw [h3];exact Nat.beq_refl _⟩,by rw [h4];exact Nat.beq_refl _⟩,h5⟩,hc.2⟩
   unfold growA
   simp only [hi]
   split at h
   ·split at h
    ·rename_i k μ1 hn
     simp only [Option.some.injEq,Prod.mk.injEq] at h
     obtain ⟨rfl,rfl,rfl⟩:=h
     obtain ⟨h1,h2,h3,h4,h5⟩:=hp
     rw [conds (a:=True) (b:=True) (c:=True) (d:=True) h1 h2 h3 h4 h5,cond_true]
     simp only [openA,hn]
    ·cases h
   ·split at h
    ·rename_i k μ1 hn
     simp only [Option.some.injEq,Prod.mk.injEq] at h
     obtain ⟨rfl,rfl,rfl⟩:=h
     obtain ⟨h1,h2,h3,h4,h5,h6⟩:=hp
     rw [conds (a:=True) (b:=True) (c:=True) (d:=True) h1 h2 h3 h4 h5,cond_true]
     simp only [openA,h6,hn]
    ·cases h
   ·split at h
    ·rename_i vs es hsp hg
     split at h
     ·rename_i k μ1 hn
      simp only [Option.some.injEq,Prod.mk.injEq] at h
      obtain ⟨rfl,rfl,rfl⟩:=h
      obtain ⟨h1,h2,h3,h4,h5,h6,h7,h8⟩:=hp
      rw [conds (a:=True) (b:=True) (c:=True) (d:=True) h1 h2 h3 h4 h5,cond_true]
      subst h7
      simp only [openA,h6,hsp,hg,h8,Nat.beq_refl,Bool.and_self,cond_true,hn]
     ·cases h
    ·cases h
   ·cases h
 ·cases h
def appendS (E : Env) (argTypes : List TypeId) (args : List Value) (μ : Hp) (ans : Ans) : Option (Value × Hp × Prop) :=
 match argTypes,args with
 | [t,u],[.slice base len cap,x] => match E.und t,E.und u with
  | some (.slice e),some ud => bif isInt ud then none else
   match E.size e,lenA x μ with
   | some s,some n => match firstS s n x μ with
    | some (new,p) => match base,ans with
     | none,.same => some (.slice none 0 0,μ,p∧len = 0∧cap = 0∧n = 0)
     | none,.grow false => match growS E e none 0 0 n [] new false μ with
      | some (v,μ',q) => some (v,μ',p∧len = 0∧cap = 0∧n ≠ 0∧q)
      | none => none
     | some a,.same => some (.slice (some a) len cap,μ,p∧n = 0∧len + n ≤ capOf cap)
     | some a,.fit => match a.spot with
      | none => match storeS a.block (a.off + len * s) new μ with
       | some (μ',q) => some (.slice (some a) (len + n) cap,μ',p∧n ≠ 0∧len + n ≤ capOf cap∧q)
       | none => none
      | some _ => none
     | some a,.grow row => match firstS s len (.slice (some a) len cap) μ with
      | some (old,p2) => match growS E e (some a) len cap n old new row μ with
       | some (v,μ',q) => some (v,μ',p∧p2∧capOf cap < len + n∧q)
       | none => none
      | none => none
     | _,_ => none
    | none => none
   | _,_ => none
  | _,_ => none
 | _,_ => none
theorem appendS_ok {E : Env} {argTypes : List TypeId} {args : List Value} {μ μ' : Hp} {ans : Ans} {v : Value} {p : Prop} (h : appendS E argTypes args μ ans = some (v,μ',p)) (hp : p) : appendA E argTypes args μ = some (v,μ'):=by
 unfold appendS at h
 unfold appendA
 split at h
 ·rename_i t u base len cap x
  simp only
  split at h
  ·rename_i e ud ht hu
   simp only [ht,hu]
   cases hi : isInt ud with
   | true => rw [hi] at h;cases h
   | false =>
    rw [hi,cond_false] at h
    simp only [cond_false]
    unfold appendB
    split at h
    ·rename_i s n hs hn
     simp only [hs,hn]
     split at h
     ·rename_i new p1 hf
      split at h
      ·simp only [Option.some.injEq,Prod.mk.injEq] at h
       obtain ⟨rfl,rfl,rfl⟩:=h
       obtain ⟨h1,rfl,rfl,rfl⟩:=hp
       simp only [firstS_ok hf h1,Nat.beq_refl,Bool.and_self,cond_true]
      ·split at h
       ·rename_i hg
        simp only [Option.some.injEq,Prod.mk.injEq] at h
        obtain ⟨rfl,rfl,rfl⟩:=h
        obtain ⟨h1,rfl,rfl,h2,h3⟩:=hp
        have:=growS_ok hg h3
        simp only [firstS_ok hf h1,Nat.beq_refl,Bool.and_self,cond_true,beq_no h2,cond_false,this]
       ·cases h
      ·simp only [Option.some.injEq,Prod.mk.injEq] at h
       obtain ⟨rfl,rfl,rfl⟩:=h
       obtain ⟨h1,rfl,h2⟩:=hp
       have h2' : Nat.ble (len + 0) (capOf cap) = true:=Nat.ble_eq_true_of_le h2
       simp only [firstS_ok hf h1,h2',Nat.beq_refl,cond_true]
      ·rename_i aa
       split at h
       ·rename_i hsp
        split at h
        ·rename_i μ1 q hst
         simp only [Option.some.injEq,Prod.mk.injEq] at h
         obtain ⟨rfl,rfl,rfl⟩:=h
         obtain ⟨h1,h2,h3,h4⟩:=hp
         have h3' : Nat.ble (len + n) (capOf cap) = true:=Nat.ble_eq_true_of_le h3
         obtain ⟨ab,ao,asp⟩:=aa
         simp only at hsp;subst hsp
         simp only [firstS_ok hf h1,h3',beq_no h2,cond_false,addr_add,storeS_ok hst h4]
        ·cases h
       ·cases h
      ·split at h
       ·rename_i old p2 hf2
        split at h
        ·rename_i hg
         simp only [Option.some.injEq,Prod.mk.injEq] at h
         obtain ⟨rfl,rfl,rfl⟩:=h
         obtain ⟨h1,h2,h3,h4⟩:=hp
         have h3' : Nat.ble (len + n) (capOf cap) = false:=by
          cases hb : Nat.ble (len + n) (capOf cap) with
          | false => rfl
          | true => exact absurd (Nat.le_of_ble_eq_true hb) (by omega)
         simp only [firstS_ok hf h1,h3',firstS_ok hf2 h2,growS_ok hg h4]
        ·cases h
       ·cases h
      ·cases h
     ·cases h
    ·cases h
  ·cases h
 ·cases h
def natS (v : Option Value) (d : Nat) : Option (Nat × (Nat → Prop)) :=
 match v with
 | none => some (d,fun _ => True)
 | some (.int _ i) => some (i.toNat,fun b => 0 ≤ i∧i ≤ b)
 | _ => none
theorem natS_some {v : Value} {d n b : Nat} {q : Nat → Prop} (h : natS (some v) d = some (n,q)) (hq : q b) : natOf v b = some n:=by
 unfold natS at h
 split at h
 ·rename_i hh;cases hh
 ·rename_i k i hh
  simp only [Option.some.injEq,Prod.mk.injEq] at h hh
  subst hh
  obtain ⟨rfl,rfl⟩:=h
  have e : (decide (0 ≤ i) && decide (i ≤ (b : Int))) = true:=by simp;exact hq
  simp only [natOf,e,cond_true]
 ·cases h
def natE (v : Option Value) (b d : Nat) : Option Nat :=
 match v with
 | some v => natOf v b
 | none => some d
theorem natS_end {v : Option Value} {d n b : Nat} {q : Nat → Prop} (h : natS v d = some (n,q)) (hq : q b) : natE v b d = some n:=by
 cases v with
 | none => simp only [natS,Option.some.injEq,Prod.mk.injEq] at h;simp only [natE,h.1]
 | some v => exact natS_some h hq
def boundsS (len cap : Nat) (lo hi : Option Value) : Option (Nat × Nat × Prop) :=
 match natS hi len with
 | some (h,ph) => match natS lo 0 with
  | some (l,pl) => some (l,h,ph (capOf cap)∧pl h∧l ≤ capOf cap)
  | none => none
 | none => none
theorem boundsS_ok {len cap : Nat} {lo hi : Option Value} {l h : Nat} {p : Prop} (hb : boundsS len cap lo hi = some (l,h,p)) (hp : p) : boundsA len cap lo hi none = some (l,h,cap):=by
 unfold boundsS at hb
 split at hb
 ·rename_i h' ph hh
  split at hb
  ·rename_i l' pl hl
   simp only [Option.some.injEq,Prod.mk.injEq] at hb
   obtain ⟨rfl,rfl,rfl⟩:=hb
   obtain ⟨h1,h2,h3⟩:=hp
   have eh:=natS_end hh h1
   have el:=natS_end hl h2
   clear hh hl
   unfold boundsA
   have h3':=Nat.ble_eq_true_of_le h3
   cases hi with
   | none =>
    simp only [natE,Option.some.injEq] at eh
    subst eh
    cases lo with
    | none => simp only [natE,Option.some.injEq] at el;subst el;simp only [h3',cond_true]
    | some v => simp only [natE] at el;simp only [el,h3',cond_true]
   | some u =>
    simp only [natE] at eh
    cases lo with
    | none => simp only [natE,Option.some.injEq] at el;subst el;simp only [eh,h3',cond_true]
    | some v => simp only [natE] at el;simp only [eh,el,h3',cond_true]
  ·cases hb
 ·cases hb
def sliceS (E : Env) (t : TypeId) (x : Value) (lo hi : Option Value) (ans : Ans) : Option (Value × Prop) :=
 match E.und t,x with
 | some .string,.string s => match ans,boundsS s.size (2 * s.size) lo hi with
  | .sym,some (l,h,p) => some (.string (s.extract l h),p)
  | _,_ => none
 | some (.slice e),.slice (some a) len cap => match E.size e,boundsS len cap lo hi,a.spot,ans with
  | some s,some (l,h,p),none,.sym => some (.slice (some ⟨a.block,a.off + l * s,none⟩) (h - l) (cap - 2 * l),p∧l ≠ capOf cap)
  | some s,some (l,h,p),none,.same => some (.slice (some a) (h - l) (cap - 2 * l),p∧l = capOf cap∧capOpen cap = false)
  | _,_,_,_ => none
 | _,_ => none
theorem sliceS_ok {E : Env} {t : TypeId} {x v : Value} {lo hi : Option Value} {ans : Ans} {p : Prop} {μ : Hp} (h : sliceS E t x lo hi ans = some (v,p)) (hp : p) : sliceA E t x lo hi none μ = some (v,μ):=by
 unfold sliceS at h
 unfold sliceA
 split at h
 ·rename_i s hu
  split at h
  ·rename_i l h' p' hb
   simp only [Option.some.injEq,Prod.mk.injEq] at h
   obtain ⟨rfl,rfl⟩:=h
   simp only [hu,boundsS_ok hb hp]
  ·cases h
 ·rename_i e a len cap hu
  split at h
  ·rename_i s l h' p' hs hb hsp
   simp only [Option.some.injEq,Prod.mk.injEq] at h
   obtain ⟨rfl,rfl⟩:=h
   obtain ⟨h1,h2⟩:=hp
   obtain ⟨ab,ao,asp⟩:=a
   simp only at hsp;subst hsp
   simp only [hu,hs,boundsS_ok hb h1,beq_no (Ne.symm h2),addr_add]
  ·rename_i s l h' p' hs hb hsp
   simp only [Option.some.injEq,Prod.mk.injEq] at h
   obtain ⟨rfl,rfl⟩:=h
   obtain ⟨h1,h2,h3⟩:=hp
   obtain ⟨ab,ao,asp⟩:=a
   simp only at hsp;subst hsp
   simp only [hu,hs,boundsS_ok hb h1,h2,Nat.beq_refl,h3]
  ·cases h
 ·cases h
theorem bytesOf_intList : ∀ (l : List UInt8),bytesOf (intList l) = some l
 | [] => rfl
 | b :: r => by
  have:=bytesOf_intList r
  unfold intList at this ⊢
  simp only [List.map_cons,bytesOf,this,Option.map_some,Option.some.injEq,List.cons.injEq,and_true]
  simp
def strS (E : Env) (src dst : TypeId) (x : Value) (b : ByteArray) (μ : Hp) : Option Prop :=
 match E.und src,E.und dst,x with
 | some (.slice e),some .string,.slice (some a) len _ => match E.und e,a.spot,μ.cells a.block with
  | some (.int .u8),none,some vs => some ((vs.drop a.off).take len = intList b.data.toList∧b.data.toList.length = len)
  | _,_,_ => none
 | some (.slice e),some .string,.chan (some wd) => match E.und e,wordAt μ wd with
  | some (.int .u8),some (len,r) => match μ.cells r with
   | some vs => some ((vs.drop 0).take len = intList b.data.toList∧b.data.toList.length = len)
   | none => none
  | _,_ => none
 | _,_,_ => none
theorem strS_ok {P : Program} {E : Env} {src dst : TypeId} {x : Value} {b : ByteArray} {μ : Hp} {p : Prop} (h : strS E src dst x b μ = some p) (hp : p) : convertA P E src dst x μ = .val (.string b) μ:=by
 unfold strS at h
 split at h
 ·rename_i e a len c hs hd
  split at h
  ·rename_i vs he hsp hc
   simp only [Option.some.injEq] at h
   subst h
   obtain ⟨h1,h2⟩:=hp
   have hf : firstA 1 len (.slice (some a) len c) μ = some (intList b.data.toList):=by
    unfold firstA
    cases len with
    | zero =>
     have : b.data.toList = []:=List.eq_nil_of_length_eq_zero h2
     simp [this,intList]
    | succ n =>
     simp only [hsp,hc,Nat.mul_one,h1]
     rw [show Nat.beq (intList b.data.toList).length (n + 1) = true from by rw [intList,List.length_map,h2];exact Nat.beq_refl _,cond_true]
   unfold convertA
   simp only [hs,hd,he,hf,bytesOf_intList]
  ·cases h
 ·rename_i e wd hs hd
  split at h
  ·rename_i len r he hw
   split at h
   ·rename_i vs hc
    simp only [Option.some.injEq] at h
    subst h
    obtain ⟨h1,h2⟩:=hp
    have hf : firstA 1 len (.chan (some wd)) μ = some (intList b.data.toList):=by
     unfold firstA
     simp only [hw]
     cases len with
     | zero =>
      have : b.data.toList = []:=List.eq_nil_of_length_eq_zero h2
      simp [this,intList]
     | succ n =>
      simp only [hc,Nat.mul_one,h1]
      rw [show Nat.beq (intList b.data.toList).length (n + 1) = true from by rw [intList,List.length_map,h2];exact Nat.beq_refl _,show Nat.ble (n + 1) (n + 1) = true from by simp,Bool.and_self,cond_true]
    unfold convertA
    simp only [hs,hd,he,hw,hf,bytesOf_intList]
   ·cases h
  ·cases h
 ·cases h
def deepCells1 (μ : Hp) (n : Nat) : Option (List Deep) :=
 match μ.get n with
 | some (.ro ds) => some ds
 | some (.mix ds _) => some ds
 | _ => none
theorem deepCells1_ok {E : Env} {t : TypeId} {μ : Hp} {a : Addr} {ds : List Deep} (h : deepCells1 μ a.block = some ds) : deepCells μ a.block = some ds∧knownLoad E t a μ = none:=by
 have hk : ∀ n,knownCells μ a n = none:=by
  intro n
  unfold knownCells
  split
  ·rename_i ds off vs hsp hg
   unfold deepCells1 at h
   rw [hg] at h
   cases h
  ·rfl
 refine ⟨?_,?_⟩
 ·unfold deepCells1 at h
  unfold deepCells
  split at h
  ·rename_i hg;rw [hg];exact h
  ·rename_i hg;rw [hg];exact h
  ·cases h
 ·unfold knownLoad
  split
  ·rw [hk];rfl
  ·rw [hk]
  ·rfl
def symOp (P : Program) (E : Env) (ev : Operand → Value) (o : Oper) (μ : Hp) (ans : Ans) : Option (OR × Option Prop) :=
 match o.op,ans with
 | .indexAddr t x i,.sym => match E.und t,ev x,ev i with
  | some (.slice e),.slice (some a) len _,.int _ k => match a.spot,E.size e with
   | none,some s => some (.val (.pointer (some ⟨a.block,a.off + k.toNat * s,none⟩)) μ,some (0 ≤ k∧k < len))
   | _,_ => none
  | some (.array n e),.pointer (some a),.int _ k => match a.spot,E.size e with
   | none,some s => some (.val (.pointer (some ⟨a.block,a.off + k.toNat * s,none⟩)) μ,some (0 ≤ k∧k < n))
   | _,_ => none
  | some (.slice e),.chan (some wd),.int _ k => match wordAt μ wd,E.size e with
   | some (len,r),some s => some (.val (.pointer (some ⟨r,0 + k.toNat * s,none⟩)) μ,some (0 ≤ k∧k < len))
   | _,_ => none
  | _,_,_ => none
 | .index t x i,.sym => match E.und t,ev x,ev i with
  | some .string,.string s,.int _ k => some (.val (.int .u8 (s.data.toList.getD k.toNat 0).toNat) μ,some (0 ≤ k∧k.toNat < s.data.toList.length))
  | _,_,_ => none
 | .load t a,.v x => match ev a,E.isAgg t,E.size t with
  | .pointer (some a),some false,some _ => match a.spot,μ.get a.block with
   | none,some (.cells vs _) => some (.val x μ,some (vs[a.off]? = some x))
   | none,some (.rov vs) => some (.val x μ,some (vs[a.off]? = some x))
   | _,_ => none
  | _,_,_ => none
 | .load t a,.l xs => match ev a,E.isAgg t,E.size t with
  | .pointer (some a),some true,some n => match a.spot,μ.get a.block,Nat.beq xs.length n with
   | none,some (.cells vs _),true => some (.val (.agg ⟨xs⟩) μ,some ((vs.drop a.off).take n = xs))
   | none,some (.rov vs),true => some (.val (.agg ⟨xs⟩) μ,some ((vs.drop a.off).take n = xs))
   | _,_,_ => none
  | _,_,_ => none
 | .load t a,.dp es => match ev a,E.isAgg t,E.size t with
  | .pointer (some a),some true,some n => match a.spot,deepCells1 μ a.block,Nat.beq es.length n,nameAll es μ with
   | none,some ds,true,some (vs,μ') => some (.val (.agg ⟨vs⟩) μ',some ((ds.drop a.off).take n = es))
   | _,_,_,_ => none
  | .pointer (some a),some false,some _ => match a.spot,deepCells1 μ a.block,es with
   | none,some ds,[d] => match nameD d μ with
    | some (v,μ') => some (.val v μ',some (ds[a.off]? = some d))
    | none => none
   | _,_,_ => none
  | _,_,_ => none
 | .load t a,.kn d => match ev a,E.isAgg t,E.size t with
  | .pointer (some a),some true,some n => match a.spot,μ.get a.block with
   | none,some (.rok _ off vs) => some (.val (.agg ⟨(vs.drop d).take n⟩) μ,some (a.off = off + d∧d + n ≤ vs.length))
   | _,_ => none
  | .pointer (some a),some false,some _ => match a.spot,μ.get a.block with
   | none,some (.rok _ off vs) => match (vs.drop d).take 1 with
    | [v] => some (.val v μ,some (a.off = off + d∧d + 1 ≤ vs.length))
    | _ => none
   | _,_ => none
  | _,_,_ => none
 | .store t a x,.sym => match ev a,E.size t with
  | .pointer (some ad),some n => match ad.spot,Nat.beq (ev x).cells.size n,storeS ad.block ad.off (ev x).cells.toList μ with
   | none,true,some (μ',p) => some (.val undef μ',some p)
   | _,_,_ => none
  | _,_ => none
 | .convert src dst x,.str b => match strS E src dst (ev x) b μ with
  | some p => some (.val (.string b) μ,some p)
  | none => none
 | .slice t x lo hi none,ans => match sliceS E t (ev x) (lo.map ev) (hi.map ev) ans with
  | some (v,p) => some (.val v μ,some p)
  | none => none
 | .pick c a b,.b d => match ev c with
  | .bool t => some (.val (bif d then ev a else ev b) μ,some (t = d))
  | _ => none
 | .call c,ans => match c.callee with
  | .builtin .append => match appendS E c.argTypes.toList (c.args.toList.map ev) μ ans with
   | some (v,μ',p) => some (.val v μ',some p)
   | none => none
  | _ => none
 | .makeSlice t l c,.mk n => match E.und t,ev l,ev c with
  | some (.slice e),.int _ i,.int _ j => match E.info e,rowOf E e n with
   | some inf,some row => match μ.new (.cells row 0) with
    | some (k,μ') => some (.val (.slice (some ⟨k,0,none⟩) n (2 * n)) μ',some (i = (n : Int)∧j = (n : Int)∧inf.bytes * n ≤ 281474976710656∧n ≤ 9223372036854775807))
    | none => none
   | _,_ => none
  | _,_,_ => none
 | _,_ => none
def opS (P : Program) (E : Env) (ev : Operand → Value) (o : Oper) (μ : Hp) (ans : Ans) : Option (OR × Option Prop) :=
 match ans with
 | .go => some (opA P E ev o μ,none)
 | ans => bif o.op.operands.toList.all (okOpnd E ev) then symOp P E ev o μ ans else none
section
variable {P : Program} {E : Env} {ev : Operand → Value} {μ : Hp}
theorem natOf_sym {k : IntKind} {i : Int} {n : Nat} (h0 : 0 ≤ i) (h1 : i < (n + 1 : Nat)) : natOf (.int k i) n = some i.toNat:=by
 simp only [natOf]
 have e : (decide (0 ≤ i) && decide (i ≤ (n : Int))) = true:=by simp;omega
 rw [e];rfl
theorem symOp_ok {o : Oper} {ans : Ans} {r : OR} {q : Option Prop} (hops : o.op.operands.toList.all (okOpnd E ev) = true) (h : symOp P E ev o μ ans = some (r,q)) (hq : ∀ p,q = some p → p) : opA P E ev o μ = r:=by
 unfold opA
 rw [hops,cond_true]
 obtain ⟨dst,op,type,pos,after,guard⟩:=o
 unfold symOp at h
 split at h
 ·rename_i t x i heq
  simp only at heq;subst heq
  simp only [indexAddrA]
  split at h
  ·rename_i e a len c k' k hu hx hi
   split at h
   ·rename_i s hsp hs
    simp only [Option.some.injEq,Prod.mk.injEq] at h
    obtain ⟨rfl,rfl⟩:=h
    obtain ⟨h0,h1⟩:=hq _ rfl
    obtain ⟨ab,ao,asp⟩:=a
    simp only at hsp;subst hsp
    rw [hu,hx,hi]
    cases len with
    | zero => exact absurd h1 (by omega)
    | succ n =>
     simp only
     rw [natOf_sym h0 h1,hs]
     simp only [ofV,addr_add]
   ·cases h
  ·rename_i n e a k' k hu hx hi
   split at h
   ·rename_i s hsp hs
    simp only [Option.some.injEq,Prod.mk.injEq] at h
    obtain ⟨rfl,rfl⟩:=h
    obtain ⟨h0,h1⟩:=hq _ rfl
    obtain ⟨ab,ao,asp⟩:=a
    simp only at hsp;subst hsp
    rw [hu,hx,hi]
    cases n with
    | zero => exact absurd h1 (by omega)
    | succ n =>
     simp only
     rw [natOf_sym h0 h1,hs]
     simp only [ofV,addr_add]
   ·cases h
  ·rename_i e wd k' k hu hx hi
   split at h
   ·rename_i len r s hw hs
    simp only [Option.some.injEq,Prod.mk.injEq] at h
    obtain ⟨rfl,rfl⟩:=h
    obtain ⟨h0,h1⟩:=hq _ rfl
    rw [hu,hx,hi]
    cases len with
    | zero => exact absurd h1 (by omega)
    | succ n =>
     simp only [hw]
     rw [natOf_sym h0 h1,hs]
     simp only [ofV,addr_add]
   ·cases h
  ·cases h
 ·rename_i t x i heq
  simp only at heq;subst heq
  simp only [indexA]
  split at h
  ·rename_i s k' k hu hx hi
   simp only [Option.some.injEq,Prod.mk.injEq] at h
   obtain ⟨rfl,rfl⟩:=h
   obtain ⟨h0,h1⟩:=hq _ rfl
   rw [hu,hx,hi]
   simp only
   have e : decide (0 ≤ k) = true:=by simpa using h0
   rw [e,cond_true,List.getElem?_eq_getElem h1]
   simp only [ofV,List.getD_eq_getElem?_getD,List.getElem?_eq_getElem h1,Option.getD_some]
  ·cases h
 ·rename_i t a x heq
  simp only at heq;subst heq
  split at h
  ·rename_i ad n ha hg hs
   simp only [ha]
   split at h
   ·rename_i vs es hsp hget
    simp only [Option.some.injEq,Prod.mk.injEq] at h
    obtain ⟨rfl,rfl⟩:=h
    have:=hq _ rfl
    simp only [deepCells,hget,loadA,hsp,Hp.cells,hg,hs,this,ofV]
   ·rename_i vs hsp hget
    simp only [Option.some.injEq,Prod.mk.injEq] at h
    obtain ⟨rfl,rfl⟩:=h
    have:=hq _ rfl
    simp only [deepCells,hget,loadA,hsp,Hp.cells,hg,hs,this,ofV]
   ·cases h
  ·cases h
 ·rename_i t a xs heq
  simp only at heq;subst heq
  split at h
  ·rename_i ad n ha hg hs
   simp only [ha]
   split at h
   ·rename_i vs es hsp hget hl
    simp only [Option.some.injEq,Prod.mk.injEq] at h
    obtain ⟨rfl,rfl⟩:=h
    have:=hq _ rfl
    simp only [deepCells,hget,loadA,hsp,Hp.cells,hg,hs,this,hl,cond_true,ofV]
   ·rename_i vs hsp hget hl
    simp only [Option.some.injEq,Prod.mk.injEq] at h
    obtain ⟨rfl,rfl⟩:=h
    have:=hq _ rfl
    simp only [deepCells,hget,loadA,hsp,Hp.cells,hg,hs,this,hl,cond_true,ofV]
   ·cases h
  ·cases h
 ·rename_i t a es heq
  simp only at heq;subst heq
  split at h
  ·rename_i ad n ha hg hs
   simp only [ha]
   split at h
   ·rename_i ds vs μ' hsp hget hl hn
    simp only [Option.some.injEq,Prod.mk.injEq] at h
    obtain ⟨rfl,rfl⟩:=h
    have:=hq _ rfl
    simp only [(deepCells1_ok (E:=E) (t:=t) hget).1,(deepCells1_ok (E:=E) (t:=t) hget).2,loadRo,hsp,hg,hs,this,hl,cond_true,hn,ofVal]
   ·cases h
  ·rename_i ad n ha hg hs
   simp only [ha]
   split at h
   ·rename_i ds d hsp hget
    split at h
    ·rename_i v μ' hn
     simp only [Option.some.injEq,Prod.mk.injEq] at h
     obtain ⟨rfl,rfl⟩:=h
     have:=hq _ rfl
     simp only [(deepCells1_ok (E:=E) (t:=t) hget).1,(deepCells1_ok (E:=E) (t:=t) hget).2,loadRo,hsp,hg,hs,this,hn,ofVal]
    ·cases h
   ·cases h
  ·cases h
 ·rename_i t a d heq
  simp only at heq;subst heq
  split at h
  ·rename_i ad n ha hg hs
   split at h
   ·rename_i ds off vs hsp hget
    simp only [Option.some.injEq,Prod.mk.injEq] at h
    obtain ⟨rfl,rfl⟩:=h
    obtain ⟨g1,g2⟩:=hq _ rfl
    have hk : knownLoad E t ad μ = some (.agg ⟨(vs.drop d).take n⟩):=by
     simp only [knownLoad,hg,hs,knownCells,hsp,hget,g1,Nat.ble_eq_true_of_le (Nat.le_add_right off d),Nat.ble_eq_true_of_le (show off + d + n ≤ off + vs.length by omega),Bool.and_self,cond_true,Option.map_some,Nat.add_sub_cancel_left]
    simp only [ha,deepCells,hget,hk]
   ·cases h
  ·rename_i ad n ha hg hs
   split at h
   ·rename_i ds off vs hsp hget
    split at h
    ·rename_i v hv
     simp only [Option.some.injEq,Prod.mk.injEq] at h
     obtain ⟨rfl,rfl⟩:=h
     obtain ⟨g1,g2⟩:=hq _ rfl
     have hk : knownLoad E t ad μ = some v:=by
      simp only [knownLoad,hg,hs,knownCells,hsp,hget,g1,Nat.ble_eq_true_of_le (Nat.le_add_right off d),Nat.ble_eq_true_of_le (show off + d + 1 ≤ off + vs.length by omega),Bool.and_self,cond_true,Nat.add_sub_cancel_left,hv]
     simp only [ha,deepCells,hget,hk]
    ·cases h
   ·cases h
  ·cases h
 ·rename_i t a x heq
  simp only at heq;subst heq
  split at h
  ·rename_i ad n ha hs
   split at h
   ·rename_i μ' p hsp hl hst
    simp only [Option.some.injEq,Prod.mk.injEq] at h
    obtain ⟨rfl,rfl⟩:=h
    obtain ⟨ab,ao,asp⟩:=ad
    simp only at hsp;subst hsp
    simp only [ha,storeA,hs,hl,cond_true,storeS_ok hst (hq _ rfl),ofHp]
   ·cases h
  ·cases h
 ·rename_i src dst x b heq
  simp only at heq;subst heq
  split at h
  ·rename_i p hs
   simp only [Option.some.injEq,Prod.mk.injEq] at h
   obtain ⟨rfl,rfl⟩:=h
   simp only [strS_ok (P:=P) hs (hq _ rfl)]
  ·cases h
 ·rename_i t x lo hi heq
  simp only at heq;subst heq
  split at h
  ·rename_i v p hs
   simp only [Option.some.injEq,Prod.mk.injEq] at h
   obtain ⟨rfl,rfl⟩:=h
   simp only [Option.map_none,sliceS_ok hs (hq _ rfl),ofVal]
  ·cases h
 ·rename_i c a b d heq
  simp only at heq;subst heq
  split at h
  ·rename_i t ht
   simp only [Option.some.injEq,Prod.mk.injEq] at h
   obtain ⟨rfl,rfl⟩:=h
   have:=hq _ rfl
   subst this
   simp only [ht]
   cases t <;> rfl
  ·cases h
 ·rename_i c heq
  simp only at heq;subst heq
  split at h
  ·rename_i hcal
   split at h
   ·rename_i v μ' p ha
    simp only [Option.some.injEq,Prod.mk.injEq] at h
    obtain ⟨rfl,rfl⟩:=h
    simp only [hcal,builtinA,appendS_ok ha (hq _ rfl),ofVal]
   ·cases h
  ·cases h
 ·rename_i t l c n heq
  simp only at heq;subst heq
  split at h
  ·rename_i e k1 i k2 j hu hl hc
   split at h
   ·rename_i inf row hi hr
    split at h
    ·rename_i k μ' hn
     simp only [Option.some.injEq,Prod.mk.injEq] at h
     obtain ⟨rfl,rfl⟩:=h
     obtain ⟨rfl,rfl,hb,hm⟩:=hq _ rfl
     have hnat : ∀ kd : IntKind,natOf (.int kd (n : Int)) 9223372036854775807 = some n:=by
      intro kd
      simp only [natOf]
      rw [show (decide ((0 : Int) ≤ (n : Int)) && decide ((n : Int) ≤ ((9223372036854775807 : Nat) : Int))) = true by simp;omega,cond_true,Int.toNat_natCast]
     simp only [makeSliceA,hu,hl,hc,hnat,hi,hr,hn,Nat.ble_eq_true_of_le hb,Nat.ble_eq_true_of_le (Nat.le_refl n),Bool.and_self,cond_true,ofVal]
    ·cases h
   ·cases h
  ·cases h
 ·cases h
theorem opS_ok {o : Oper} {ans : Ans} {r : OR} {q : Option Prop} (h : opS P E ev o μ ans = some (r,q)) (hq : ∀ p,q = some p → p) : opA P E ev o μ = r:=by
 unfold opS at h
 split at h
 ·simp only [Option.some.injEq,Prod.mk.injEq] at h;exact h.1
 ·cases hops : o.op.operands.toList.all (okOpnd E ev) with
  | false => rw [hops] at h;cases h
  | true => rw [hops,cond_true] at h;exact symOp_ok hops h hq
end
end Go.Abs
end
section
namespace Go.Abs
abbrev OR':=Exit × Fr × Hp × List Ans × Prop
abbrev SumO:=List Value → Hp → Option (Ending × Hp × Prop)
abbrev PieceO:=Fr → Hp → Option (Exit × Fr × Hp × Prop)
structure Sm where
 S : FuncId → Option SumO
 L : FuncId → List Nat → Option PieceO
 Q : FuncId → Option (List Value → Hp → Option (Value × Prop)):=fun _ => none
def pureS (g : List Value → Hp → Option (Value × Prop)) : SumO:=fun args μ => match g args μ with
 | some (v,p) => some (.returned v,μ,p)
 | none => none
def child : Code → Nat → Option Code
 | .seq a _,0 => some a
 | .seq _ b,1 => some b
 | .cond _ a _,0 => some a
 | .cond _ _ b,1 => some b
 | .block _ a,0 => some a
 | .scope a,0 => some a
 | .loop a,0 => some a
 | _,_ => none
def sub (c : Code) : List Nat → Option Code
 | [] => some c
 | i :: p => (sub c p).bind fun d => child d i
abbrev CallO:=FuncId → List Value → Hp → List Ans → Prop → Option (Ending × Hp × List Ans × Prop)
abbrev CodeO:=FuncId → List Nat → Code → Fr → Hp → List Ans → Prop → Option OR'
def wantO (ops : Array Oper) (fr : Fr) (o : Oper) (orc : List Ans) (O : Prop) : Bool × List Ans × Prop :=
 match o.guard with
 | none => (true,orc,O)
 | some _ => match pull orc with
  | (.b d,orc') => (d,orc',O∧wantedA ops fr o = d)
  | (_,orc') => (wantedA ops fr o,orc',O)
def deepRo (μ : Hp) (n : Nat) : Option (List Deep) :=
 match μ.get n with
 | some (.ro ds) => some ds
 | some (.rok ds _ _) => some ds
 | _ => none
def ghosts : List Ans → Hp → Prop → Option (List Ans × Hp × Prop)
 | .asMix n :: r,μ,O => match μ.get n with
  | some (.cells vs es) => ghosts r (μ.put n (.mix (vs.map .val) es)) (O∧vs.all atom = true)
  | _ => none
 | .frz n :: r,μ,O => match μ.get n with
  | some (.cells vs _) => ghosts r (μ.put n (.rov vs)) (O∧vs.all atom = true)
  | some (.mix ds _) => ghosts r (μ.put n (.ro ds)) O
  | some (.rok ds _ _) => ghosts r (μ.put n (.ro ds)) O
  | _ => none
 | .nm n off es :: r,μ,O => match deepRo μ n,nameAll es μ with
  | some ds,some (vs,μ1) => ghosts r (μ1.put n (.rok ds off vs)) (O∧(ds.drop off).take es.length = es)
  | _,_ => none
 | .skip 0 :: r,μ,O => ghosts r μ O
 | l,μ,O => some (l,μ,O)
theorem ghosts_idem : ∀ (l : List Ans) {l' : List Ans} {μ μ' : Hp} {O O' : Prop},ghosts l μ O = some (l',μ',O') → ghosts l' μ' O' = some (l',μ',O'):=by
 intro l
 induction l with
 | nil => intro l' μ μ' O O' h;simp only [ghosts,Option.some.injEq,Prod.mk.injEq] at h;obtain ⟨rfl,rfl,rfl⟩:=h;rfl
 | cons a r ih =>
  intro l' μ μ' O O' h
  cases a with
  | asMix n => simp only [ghosts] at h;split at h <;> first | exact ih h | cases h
  | frz n => simp only [ghosts] at h;split at h <;> first | exact ih h | cases h
  | nm n off es => simp only [ghosts] at h;split at h <;> first | exact ih h | cases h
  | skip n => cases n with
   | zero => simp only [ghosts] at h;exact ih h
   | succ n => simp only [ghosts,Option.some.injEq,Prod.mk.injEq] at h;obtain ⟨rfl,rfl,rfl⟩:=h;rfl
  | _ => simp only [ghosts,Option.some.injEq,Prod.mk.injEq] at h;obtain ⟨rfl,rfl,rfl⟩:=h;rfl
theorem ghosts_mono : ∀ (l : List Ans) {l' : List Ans} {μ μ' : Hp} {O O' : Prop},ghosts l μ O = some (l',μ',O') → O' → O:=by
 intro l
 induction l with
 | nil => intro l' μ μ' O O' h;simp only [ghosts,Option.some.injEq,Prod.mk.injEq] at h;obtain ⟨rfl,rfl,rfl⟩:=h;exact id
 | cons a r ih =>
  intro l' μ μ' O O' h
  cases a with
  | asMix n => simp only [ghosts] at h;split at h <;> first | exact fun hO => (ih h hO).1 | cases h
  | frz n => simp only [ghosts] at h;split at h <;> first | exact fun hO => (ih h hO).1 | exact ih h | cases h
  | nm n off es => simp only [ghosts] at h;split at h <;> first | exact fun hO => (ih h hO).1 | cases h
  | skip n => cases n with
   | zero => simp only [ghosts] at h;exact ih h
   | succ n => simp only [ghosts,Option.some.injEq,Prod.mk.injEq] at h;obtain ⟨rfl,rfl,rfl⟩:=h;exact id
  | _ => simp only [ghosts,Option.some.injEq,Prod.mk.injEq] at h;obtain ⟨rfl,rfl,rfl⟩:=h;exact id
theorem asMix_ok {pr : Prot} {w0 w : World} {ng : Nat} {ι : Ren} {μ : Hp} (hS : Sim pr w0 ng ι μ w) {n es : Nat} {vs : List Value} (hg : μ.get n = some (.cells vs es)) (ha : vs.all atom = true) : Sim pr w0 ng ι (μ.put n (.mix (vs.map .val) es)) w:=by
 have hobj:=hS.obj n _ hg
 have hat:=fun v (hv : v ∈ vs) => conc_atom ι 0 v (List.all_eq_true.1 ha v hv)
 refine hS.turn hg rfl rfl rfl rfl rfl (fun _ _ => rfl) ⟨⟨vs,by simp,fun i u hu => ?_,fun i d u hd hu => ?_⟩,fun i hi => hobj.2 i (by simpa using hi)⟩
 ·obtain ⟨h1,_⟩:=hobj.1 i u hu
  rw [(hat u (List.mem_of_getElem? hu)).1] at h1
  exact h1
 ·rw [List.getElem?_map,hu,Option.map_some,Option.some.injEq] at hd
  subst hd
  rw [deepOk_val]
  exact ⟨rfl,fun ι' => conc_atom ι' 0 u (List.all_eq_true.1 ha u (List.mem_of_getElem? hu))⟩
theorem frz_cells_ok {pr : Prot} {w0 w : World} {ng : Nat} {ι : Ren} {μ : Hp} (hS : Sim pr w0 ng ι μ w) {n es : Nat} {vs : List Value} (hg : μ.get n = some (.cells vs es)) (ha : vs.all atom = true) : ∃ ι',Ext μ.next ι ι'∧Sim pr w0 ng ι' (μ.put n (.rov vs)) w:=by
 obtain ⟨ι',hx,_,_,_,_,_,h⟩:=hS.freeze hg rfl (o':=.rov vs) rfl (fun i u hu => by
  obtain ⟨h1,_⟩:=(hS.obj n _ hg).1 i u hu
  have hat:=fun ι' => conc_atom ι' 0 u (List.all_eq_true.1 ha u (List.mem_of_getElem? hu))
  rw [(hat ι).1] at h1
  exact ⟨hS.blk n _ hg rfl,.inr rfl,h1,hat⟩) (fun _ _ _ _ => trivial)
 exact ⟨ι',hx,h⟩
theorem frz_mix_ok {pr : Prot} {w0 w : World} {ng : Nat} {ι : Ren} {μ : Hp} (hS : Sim pr w0 ng ι μ w) {n es : Nat} {ds : List Deep} (hg : μ.get n = some (.mix ds es)) : ∃ ι',Ext μ.next ι ι'∧Sim pr w0 ng ι' (μ.put n (.ro ds)) w:=by
 obtain ⟨ι',hx,_,_,_,_,_,h⟩:=hS.freeze hg rfl (o':=.ro ds) rfl (fun i hi => by
  obtain ⟨u,h1,h2⟩:=hS.mix_cells hg i hi
  exact ⟨hS.blk n _ hg rfl,.inr rfl,u,h1,DeepOk.mono (fun b hb hp => ⟨hS.frozen_lt hp,.inl hp,(hS.fro b hp).2⟩) _ _ h2⟩) (fun _ _ _ _ => trivial)
 exact ⟨ι',hx,h⟩
theorem nameD_keeps {d : Deep} {v : Value} {μ μ' : Hp} (h : nameD d μ = some (v,μ')) {n : Nat} (hn : n < μ.next) : μ'.get n = μ.get n∧μ.next ≤ μ'.next:=by
 have key : ∀ {o : AObj} {k : Nat} {μ1 : Hp},μ.new o = some (k,μ1) → μ1.get n = μ.get n∧μ.next ≤ μ1.next:=by
  intro o k μ1 hk
  obtain ⟨rfl,hlim,rfl⟩:=Hp.new_eq hk
  have:=get_put_other (μ:=μ) o (show μ.next ≠ n by omega)
  simp only [Hp.get,Hp.put] at this
  exact ⟨this,Nat.le_succ _⟩
 have key2 : ∀ {o o' : AObj} {k k' : Nat} {μ1 μ2 : Hp},μ.new o = some (k,μ1) → μ1.new o' = some (k',μ2) → μ2.get n = μ.get n∧μ.next ≤ μ2.next:=by
  intro o o' k k' μ1 μ2 hk hk'
  obtain ⟨h1,h2⟩:=key hk
  obtain ⟨rfl,hlim,rfl⟩:=Hp.new_eq hk'
  have:=get_put_other (μ:=μ1) o' (show μ1.next ≠ n by omega)
  simp only [Hp.get,Hp.put] at this h1
  exact ⟨this.trans h1,Nat.le_succ_of_le h2⟩
 cases d with
 | val x => simp only [nameD,Option.some.injEq,Prod.mk.injEq] at h;obtain ⟨_,rfl⟩:=h;exact ⟨rfl,Nat.le_refl _⟩
 | sl es l =>
  simp only [nameD] at h
  split at h
  ·rename_i hk
   split at h
   ·rename_i hk2
    simp only [Option.some.injEq,Prod.mk.injEq] at h
    obtain ⟨_,rfl⟩:=h
    exact key2 hk hk2
   ·cases h
  ·cases h
 | slv vs l =>
  simp only [nameD] at h
  split at h
  ·rename_i hk
   split at h
   ·rename_i hk2
    simp only [Option.some.injEq,Prod.mk.injEq] at h
    obtain ⟨_,rfl⟩:=h
    exact key2 hk hk2
   ·cases h
  ·cases h
 | _ =>
  simp only [nameD] at h
  split at h
  ·rename_i hk
   simp only [Option.some.injEq,Prod.mk.injEq] at h
   obtain ⟨_,rfl⟩:=h
   exact key hk
  ·cases h
theorem nameAll_keeps : ∀ (ds : List Deep) {vs : List Value} {μ μ' : Hp},nameAll ds μ = some (vs,μ') → ∀ {n : Nat},n < μ.next → μ'.get n = μ.get n
 | [],vs,μ,μ',h,n,hn => by simp only [nameAll,Option.some.injEq,Prod.mk.injEq] at h;rw [h.2]
 | d :: ds,vs,μ,μ',h,n,hn => by
  simp only [nameAll] at h
  split at h
  ·rename_i v μ1 h1
   split at h
   ·rename_i vs' μ2 h2
    simp only [Option.some.injEq,Prod.mk.injEq] at h
    obtain ⟨_,rfl⟩:=h
    obtain ⟨g1,g2⟩:=nameD_keeps h1 hn
    exact (nameAll_keeps ds h2 (by omega)).trans g1
   ·cases h
  ·cases h
theorem nm_ok {pr : Prot} {w0 w : World} {ng : Nat} {ι : Ren} {μ μ1 : Hp} (hS : Sim pr w0 ng ι μ w) {n off : Nat} {ds es : List Deep} {vs : List Value} (hd : deepRo μ n = some ds) (hn : nameAll es μ = some (vs,μ1)) (he : (ds.drop off).take es.length = es) :
  ∃ ι',Ext μ.next ι ι'∧μ.next ≤ μ1.next∧Sim pr w0 ng ι' (μ1.put n (.rok ds off vs)) w:=by
 obtain ⟨o,hg,hro⟩ : ∃ o,μ.get n = some o∧RoOk ι.fz ι.wb (ι.loc n) (.ro ds):=by
  unfold deepRo at hd
  split at hd
  ·rename_i ds' hg;cases hd;exact ⟨_,hg,hS.ro _ _ hg⟩
  ·rename_i ds' off' vs' hg;cases hd;have h0:=hS.ro _ _ hg;exact ⟨_,hg,h0⟩
  ·cases hd
 have hlen : ∀ i,i < es.length → off + i < ds.length:=by
  intro i hi
  have:=congrArg List.length he
  rw [List.length_take,List.length_drop] at this
  omega
 have each : ∀ i,∃ u : Value,∀ (hi : i < es.length),ι.wb.cell? ⟨(ι.loc n).1,(ι.loc n).2 + off + i,none⟩ = some u∧DeepOk ι.fz ι.wb (ds[off + i]'(hlen i hi)) u:=by
  intro i
  by_cases hi : i < es.length
  ·obtain ⟨_,_,u,h3,h4⟩:=hro (off + i) (hlen i hi)
   exact ⟨u,fun _ => ⟨by rw [Nat.add_assoc];exact h3,h4⟩⟩
  ·exact ⟨undef,fun h => absurd h hi⟩
 obtain ⟨f,hf⟩:=Classical.axiomOfChoice each
 have hes : ∀ i (hi : i < es.length),es[i] = ds[off + i]'(hlen i hi):=by
  intro i hi
  have h1 : es[i]? = ((ds.drop off).take es.length)[i]?:=by rw [he]
  rw [List.getElem?_take,if_pos hi,List.getElem?_drop,List.getElem?_eq_getElem hi,List.getElem?_eq_getElem (hlen i hi)] at h1
  exact Option.some.inj h1
 obtain ⟨ι',h1,hS',hx,hl',hb⟩:=nameAll_ok hS (us:=(List.range es.length).map f) (by simp) (fun i d u hd hu => by
  rw [List.getElem?_map,Option.map_eq_some_iff] at hu
  obtain ⟨j,hj,rfl⟩:=hu
  have hi : i < es.length:=(List.getElem?_eq_some_iff.1 hd).1
  rw [List.getElem?_range hi] at hj
  simp at hj;subst hj
  have:=(List.getElem?_eq_some_iff.1 hd).2
  rw [← this,hes i hi]
  exact (hf i hi).2) hn
 have hnlt:=hS.lt n o hg
 refine ⟨ι',hx,hl',hS'.swap (o:=o) ((nameAll_keeps es hn hnlt).trans hg) rfl ?_ ?_⟩
 ·intro i v hv
  have hvl : i < es.length:=by
   have h2:=congrArg List.length h1
   simp at h2
   have:=(List.getElem?_eq_some_iff.1 hv).1
   omega
  have hcv : conc ι' v = f i:=by
   have h2 : (vs.map (conc ι'))[i]? = ((List.range es.length).map f)[i]?:=by rw [h1]
   rw [List.getElem?_map,hv,List.getElem?_map,List.getElem?_range hvl] at h2
   simpa using h2
  obtain ⟨g1,g2,_⟩:=hro (off + i) (hlen i hvl)
  obtain ⟨k1,k2⟩:=hx.fz _ g2 g1
  rw [hx.loc n hnlt]
  refine ⟨⟨k1,heap_lt g1 k2,?_⟩,hb v (List.mem_of_getElem? hv)⟩
  rw [hcv,World.cell?_of_block (w:=ι.wb) k2]
  exact (hf i hvl).1
 ·have h3 : RoOk ι'.fz ι'.wb (ι.loc n) (.ro ds):=RoOk.mono (fun b hb hp => by obtain ⟨h1,h2⟩:=hx.fz b hp hb;exact ⟨heap_lt hb h2,h1,h2⟩) hro
  rw [hx.loc n hnlt]
  exact h3
theorem ghosts_ok {pr : Prot} {w0 w : World} {ng : Nat} : ∀ (l : List Ans) {l' : List Ans} {μ μ' : Hp} {O O' : Prop} {ι : Ren},ghosts l μ O = some (l',μ',O') → O' → Sim pr w0 ng ι μ w → ∃ ι',Ext μ.next ι ι'∧μ.next ≤ μ'.next∧Sim pr w0 ng ι' μ' w:=by
 intro l
 induction l with
 | nil => intro l' μ μ' O O' ι h _ hS;simp only [ghosts,Option.some.injEq,Prod.mk.injEq] at h;obtain ⟨rfl,rfl,rfl⟩:=h;exact ⟨ι,Ext.refl _ _,Nat.le_refl _,hS⟩
 | cons a r ih =>
  intro l' μ μ' O O' ι h hO hS
  cases a with
  | asMix n =>
   simp only [ghosts] at h
   split at h
   ·rename_i vs es hg
    have hr:=ih h hO (asMix_ok hS hg (ghosts_mono _ h hO).2)
    exact hr
   ·cases h
  | frz n =>
   simp only [ghosts] at h
   split at h
   ·rename_i vs es hg
    obtain ⟨ι1,hx1,hS1⟩:=frz_cells_ok hS hg (ghosts_mono _ h hO).2
    obtain ⟨ι2,hx2,hn2,hS2⟩:=ih h hO hS1
    exact ⟨ι2,hx1.trans hx2 (Nat.le_refl _),hn2,hS2⟩
   ·rename_i ds es hg
    obtain ⟨ι1,hx1,hS1⟩:=frz_mix_ok hS hg
    obtain ⟨ι2,hx2,hn2,hS2⟩:=ih h hO hS1
    exact ⟨ι2,hx1.trans hx2 (Nat.le_refl _),hn2,hS2⟩
   ·rename_i ds off vs hg
    have h0:=hS.ro _ _ hg
    have hr:=ih h hO (Sim.swap (o':=.ro ds) hS hg rfl (by trivial) h0)
    exact hr
   ·cases h
  | skip n => cases n with
   | zero => simp only [ghosts] at h;exact ih h hO hS
   | succ n => simp only [ghosts,Option.some.injEq,Prod.mk.injEq] at h;obtain ⟨rfl,rfl,rfl⟩:=h;exact ⟨ι,Ext.refl _ _,Nat.le_refl _,hS⟩
  | nm n off es =>
   simp only [ghosts] at h
   split at h
   ·rename_i ds vs μ1 hd hn
    obtain ⟨ι1,hx1,hl1,hS1⟩:=nm_ok hS hd hn (ghosts_mono _ h hO).2
    obtain ⟨ι2,hx2,hn2,hS2⟩:=ih h hO hS1
    exact ⟨ι2,hx1.trans hx2 hl1,Nat.le_trans hl1 hn2,hS2⟩
   ·cases h
  | _ => simp only [ghosts,Option.some.injEq,Prod.mk.injEq] at h;obtain ⟨rfl,rfl,rfl⟩:=h;exact ⟨ι,Ext.refl _ _,Nat.le_refl _,hS⟩
def regO (P : Program) (E : Env) (callF : CallO) (ops : Array Oper) : List Oper → Fr → Hp → List Ans → Prop → Option OR'
 | [],fr,μ,orc,O => some (.normal,fr,μ,orc,O)
 | o :: rest,fr,μ0,orc0,O0 => match ghosts orc0 μ0 O0 with
  | none => none
  | some (orc,μ,O) =>
  match knownA ops fr o,wantO ops fr o orc O with
  | false,_ => none
  | true,(false,orc1,O1) => match fr.put o.dst undef with
   | some fr' => regO P E callF ops rest fr' μ orc1 O1
   | none => none
  | true,(true,orc1,O1) => match pull orc1 with
   | (ans,orc2) => match opS P E fr.ev o μ ans with
    | some (.val v μ',q) => match fr.put o.dst v with
     | some fr' => regO P E callF ops rest fr' μ' orc2 (andO O1 q)
     | none => none
    | some (.dfr d μ',q) => match ({ fr with df:=d :: fr.df } : Fr).put o.dst undef with
     | some fr' => regO P E callF ops rest fr' μ' orc2 (andO O1 q)
     | none => none
    | some (.pan v μ',q) => some (.panic [{ v,recovered:=false }],fr,μ',orc2,andO O1 q)
    | some (.call f args μ',q) => match callF f args μ' orc2 (andO O1 q) with
     | some (.returned v,μ'',orc3,O3) => match fr.put o.dst v with
      | some fr' => regO P E callF ops rest fr' μ'' orc3 O3
      | none => none
     | some (.panicked ch,μ'',orc3,O3) => some (.panic ch,fr,μ'',orc3,O3)
     | _ => none
    | _ => none
def leaveO (E : Env) (fn : Func) (r : Option OR') : Option (Ending × Hp × List Ans × Prop) :=
 match r with
 | some (.normal,fr,μ,orc,O) | some (.ret,fr,μ,orc,O) => match fr.df with
  | [] => match resultsA E fr μ fn.results.toList with
   | some vs => some (.returned (packed vs),μ,orc,O)
   | none => none
  | _ :: _ => none
 | some (.panic ch,fr,μ,orc,O) => match fr.df with
  | [] => some (.panicked ch,μ,orc,O)
  | _ :: _ => none
 | _ => none
def callO (E : Env) (s : Sm) (rc : CodeO) : CallO:=fun f args μ orc O =>
 match s.S f with
 | some g => match g args μ with
  | some (e,μ',p) => some (e,μ',orc,O∧p)
  | none => none
 | none => match E.fn f with
  | some fn => match fn.body,Fr.enter fn args with
   | some c,some fr => leaveO E fn (rc f [] c fr μ orc O)
   | _,_ => none
  | none => none
def loopO (rc : CodeO) (f : FuncId) (p : List Nat) (c : Code) : Nat → Fr → Hp → List Ans → Prop → Option OR'
 | 0,_,_,_,_ => none
 | n + 1,fr,μ,orc,O => match rc f (0 :: p) c fr μ orc O with
  | some (.normal,fr',μ',orc',O') => loopO rc f p c n fr' μ' orc' O'
  | r => r
def callS (s : Sm) (run0 : CallF) (f : FuncId) (args : List Value) (μ : Hp) (O : Prop) : Option (Ending × Hp × Prop) :=
 match s.S f with
 | some g => match g args μ with
  | some (e,μ',p) => some (e,μ',O∧p)
  | none => none
 | none => match run0 f args μ with
  | some (e,μ') => some (e,μ',O)
  | none => none
def stepsO (P : Program) (E : Env) (s : Sm) (run0 : CallF) (ops : Array Oper) : List Oper → Fr → Hp → List Ans → Prop → Nat → Option (List Step × List Hp × Fr × List Ans × Prop)
 | [],fr,μ,orc,O,_ => some ([],[μ],fr,orc,O)
 | o :: rest,fr,μ,orc,O,k =>
  match knownA ops fr o,wantO ops fr o orc O with
  | false,_ => none
  | true,(false,orc1,O1) => match fr.put o.dst undef with
   | some fr' => match stepsO P E s run0 ops rest fr' μ orc1 O1 k with
    | some (st,r) => some ({ fr,v:=undef,on:=false,k } :: st,r)
    | none => none
   | none => none
  | true,(true,orc1,O1) => match pull orc1 with
   | (ans,orc2) => match opS P E fr.ev o μ ans,loud E o.op with
    | some (.val v μ',q),false => bif Nat.beq μ'.next μ.next then (match fr.put o.dst v with
     | some fr' => match stepsO P E s run0 ops rest fr' μ orc2 (andO O1 q) k with
      | some (st,r) => some ({ fr,v,on:=true,k } :: st,r)
      | none => none
     | none => none) else none
    | some (.val v μ',q),true => match fr.put o.dst v with
     | some fr' => match stepsO P E s run0 ops rest fr' μ' orc2 (andO O1 q) (k + 1) with
      | some (st,hs,r) => some ({ fr,v,on:=true,k } :: st,μ :: hs,r)
      | none => none
     | none => none
    | some (.call f args μ',q),true => match callS s run0 f args μ' (andO O1 q) with
     | some (.returned v,μ'',O3) => match fr.put o.dst v with
      | some fr' => match stepsO P E s run0 ops rest fr' μ'' orc2 O3 (k + 1) with
       | some (st,hs,r) => some ({ fr,v,on:=true,k } :: st,μ :: hs,r)
       | none => none
      | none => none
     | _ => none
    | _,_ => none
def flatV : Nat → Value → Bool
 | 0,_ => false
 | n + 1,a => match a with
  | .bool _ | .int _ _ | .float _ _ | .string _ | .pointer _ | .slice _ _ _ | .map _ | .chan _ | .nilFunc | .nilIface => true
  | .agg x => flatVs n x.toList
  | .tuple x => flatVs n x.toList
  | _ => false
where
 flatVs (n : Nat) : List Value → Bool
  | [] => true
  | a :: as => flatV n a && flatVs n as
def sameP (P : Program) (E : Env) (o : Oper) (s : Step) (μ : Hp) : Prop :=
 match opA P E s.fr.ev o μ with
 | .val v μ' => (Nat.beq μ'.next μ.next = true∧flatV 6 s.v = true)∧v = s.v
 | _ => False
def heapsP (P : Program) (E : Env) (o : Oper) (s : Step) (lo hi : Nat) : List Hp → Nat → Prop
 | [],_ => True
 | μ :: r,k => match Nat.blt k lo || Nat.blt hi k with
  | true => heapsP P E o s lo hi r (k + 1)
  | false => sameP P E o s μ∧heapsP P E o s lo hi r (k + 1)
def quietAtP (P : Program) (E : Env) (b : List Nat) (ls : List Bool) (heaps : List Hp) (o : Oper) (s : Step) (j : Nat) : Prop :=
 match loud E o.op || !s.on with
 | true => True
 | false =>
  match Nat.beq (countB ls (fun i => (b.getD j 0).testBit i) 0) s.k && Nat.beq (countB ls (fun i => !(b.getD i 0).testBit j) 0) s.k with
  | true => True
  | false => heapsP P E o s (countB ls (fun i => (b.getD j 0).testBit i) 0) (countB ls (fun i => !(b.getD i 0).testBit j) 0) heaps 0
def quietP (P : Program) (E : Env) (b : List Nat) (ls : List Bool) (heaps : List Hp) : List Oper → List Step → Nat → Prop
 | o :: os,s :: ss,j => quietAtP P E b ls heaps o s j∧quietP P E b ls heaps os ss (j + 1)
 | _,_,_ => True
def drawnO (P : Program) (E : Env) (s : Sm) (run0 : CallF) (ops : Array Oper) (fr : Fr) (μ : Hp) (orc : List Ans) (O : Prop) : Option OR' :=
 let b:=befA ops.toList []
 bif openOk E ops b then
  match stepsO P E s run0 ops ops.toList fr μ orc O 0 with
  | some (steps,heaps,fr',orc',O') => match heaps.getLast? with
   | some μ' => some (.normal,fr',μ',orc',O'∧quietP P E b (loudOn E ops steps) heaps ops.toList steps 0)
   | none => none
  | none => none
 else none
def isCallV (o : Oper) : Bool:=match o.op with
 | .call c => (match c.callee with
  | .value _ => true
  | _ => false)
 | _ => false
def pureO (P : Program) (E : Env) (s : Sm) (ops : Array Oper) : List Oper → Fr → Hp → List Ans → Prop → Option (Fr × List Ans × Prop)
 | [],fr,_,orc,O => some (fr,orc,O)
 | o :: rest,fr,μ,orc,O =>
  match knownA ops fr o,wantO ops fr o orc O with
  | false,_ => none
  | true,(false,orc1,O1) => match fr.put o.dst undef with
   | some fr' => pureO P E s ops rest fr' μ orc1 O1
   | none => none
  | true,(true,orc1,O1) => match pull orc1 with
   | (ans,orc2) => match opS P E fr.ev o μ ans,loud E o.op with
    | some (.val v μ',q),false => bif Nat.beq μ'.next μ.next && flatV 6 v then (match fr.put o.dst v with
     | some fr' => pureO P E s ops rest fr' μ orc2 (andO O1 q)
     | none => none) else none
    | some (.call f args μ',q),true => bif isCallV o then (match s.Q f with
     | some g => match g args μ with
      | some (v,p) => match fr.put o.dst v with
       | some fr' => pureO P E s ops rest fr' μ orc2 (andO O1 q∧p)
       | none => none
      | none => none
     | none => none) else none
    | _,_ => none
def drawnP (P : Program) (E : Env) (s : Sm) (ops : Array Oper) (fr : Fr) (μ : Hp) (orc : List Ans) (O : Prop) : Option OR' :=
 bif openOk E ops (befA ops.toList []) then
  match pureO P E s ops ops.toList fr μ orc O with
  | some (fr',orc',O') => some (.normal,fr',μ,orc',O')
  | none => none
 else none
def drawnOP (P : Program) (E : Env) (s : Sm) (run0 : CallF) (ops : Array Oper) (fr : Fr) (μ : Hp) (orc : List Ans) (O : Prop) : Option OR' :=
 match orc with
 | .dp [] :: orc1 => drawnP P E s ops fr μ orc1 O
 | _ => drawnO P E s run0 ops fr μ orc O
def codeStepO (P : Program) (E : Env) (s : Sm) (run0 : CallF) (rc : CodeO) : CodeO:=fun f p c fr μ orc O =>
 match s.L f p with
 | some ℓ => match ℓ fr μ with
  | some (e,fr',μ',q) => some (e,fr',μ',orc,O∧q)
  | none => none
 | none =>
  match c with
  | .skip | .label _ => some (.normal,fr,μ,orc,O)
  | .region _ ops false => regO P E (callO E s rc) ops ops.toList fr μ orc O
  | .region _ ops true => match ghosts orc μ O with
   | some (orc,μ,O) => drawnOP P E s run0 ops fr μ orc O
   | none => none
  | .seq a b => match rc f (0 :: p) a fr μ orc O with
   | some (.normal,fr',μ',orc',O') => rc f (1 :: p) b fr' μ' orc' O'
   | r => r
  | .cond x a b => bif okOpnd E fr.ev x then (match fr.ev x with
   | .bool t => match pull orc with
    | (.b true,orc') => rc f (0 :: p) a fr μ orc' (O∧t = true)
    | (.b false,orc') => rc f (1 :: p) b fr μ orc' (O∧t = false)
    | (_,orc') => match t with
     | true => rc f (0 :: p) a fr μ orc' O
     | false => rc f (1 :: p) b fr μ orc' O
   | _ => none) else none
  | .block id a => match rc f (0 :: p) a fr μ orc O with
   | some (.exit id',fr',μ',orc',O') => bif Nat.beq id' id then some (.normal,fr',μ',orc',O') else some (.exit id',fr',μ',orc',O')
   | r => r
  | .scope a => match rc f (0 :: p) a fr μ orc O with
   | some (.goto _,_) => none
   | r => r
  | .loop a => loopO rc f p a mostRounds fr μ orc O
  | .exit id => some (.exit id,fr,μ,orc,O)
  | .ret => some (.ret,fr,μ,orc,O)
  | _ => none
def codeO (P : Program) (E : Env) (s : Sm) (run0 : CallF) : Nat → CodeO
 | 0 => fun _ _ _ _ _ _ _ => none
 | n + 1 => codeStepO P E s run0 (codeO P E s run0 n)
def runO (P : Program) (E : Env) (s : Sm) (run0 : CallF) (n : Nat) : CallO:=callO E s (codeO P E s run0 n)
section
variable {P : Program} {E : Env} {pr : Prot} {w0 : World}
def SumOk (P : Program) (pr : Prot) (w0 : World) (ng : Nat) (f : FuncId) (g : SumO) : Prop :=
 ∀ args μ e μ' (p : Prop),g args μ = some (e,μ',p) → p → ∀ ι w,Sim pr w0 ng ι μ w → (∀ x ∈ args,Bd μ.next x) →
  Calls P f (args.map (conc ι)).toArray w fun e' w' => ∃ ι',Ext μ.next ι ι'∧μ.next ≤ μ'.next∧Sim pr w0 ng ι' μ' w'∧EndRel ι' μ'.next e e'
def PieceOk (P : Program) (pr : Prot) (w0 : World) (ng : Nat) (c : Code) (ℓ : PieceO) : Prop :=
 ∀ fr μ e fr' μ' (p : Prop),ℓ fr μ = some (e,fr',μ',p) → p → ∀ ι w a (Q : Exit → Act → World → Prop),Sim pr w0 ng ι μ w → FrRel ι μ.next fr a → Goal pr w0 ng ι μ Q e fr' μ' → c.wp P Q a w
structure SmOk (P : Program) (E : Env) (pr : Prot) (w0 : World) (s : Sm) : Prop where
 Q : ∀ f g,s.Q f = some g → s.S f = some (pureS g)
 S : ∀ f g,s.S f = some g → SumOk P pr w0 E.ng f g
 L : ∀ f p ℓ,s.L f p = some ℓ → ∀ fn c d,E.fn f = some fn → fn.body = some c → sub c p = some d → PieceOk P pr w0 E.ng d ℓ
def CallOkO (P : Program) (pr : Prot) (w0 : World) (ng : Nat) (callF : CallO) : Prop :=
 ∀ f args μ orc O e μ' orc' O',callF f args μ orc O = some (e,μ',orc',O') → (O' → O)∧(O' → ∀ ι w,Sim pr w0 ng ι μ w → (∀ x ∈ args,Bd μ.next x) →
  Calls P f (args.map (conc ι)).toArray w fun e' w' => ∃ ι',Ext μ.next ι ι'∧μ.next ≤ μ'.next∧Sim pr w0 ng ι' μ' w'∧EndRel ι' μ'.next e e')
def Here (E : Env) (f : FuncId) (p : List Nat) (c : Code) : Prop:=∃ fn b,E.fn f = some fn∧fn.body = some b∧sub b p = some c
def CodeOkO (P : Program) (E : Env) (pr : Prot) (w0 : World) (rc : CodeO) : Prop :=
 ∀ f p c,Here E f p c → ∀ fr μ orc O e fr' μ' orc' O',rc f p c fr μ orc O = some (e,fr',μ',orc',O') → (O' → O)∧(O' → ∀ ι w a (Q : Exit → Act → World → Prop),Sim pr w0 E.ng ι μ w → FrRel ι μ.next fr a → Goal pr w0 E.ng ι μ Q e fr' μ' → c.wp P Q a w)
theorem Here.child {f : FuncId} {p : List Nat} {c d : Code} {i : Nat} (h : Here E f p c) (hd : Abs.child c i = some d) : Here E f (i :: p) d:=by
 obtain ⟨fn,b,hf,hb,hs⟩:=h
 exact ⟨fn,b,hf,hb,by simp only [sub,hs,Option.bind_some,hd]⟩
theorem wantO_spec {ops : Array Oper} {fr : Fr} {o : Oper} {orc orc' : List Ans} {O O' : Prop} {d : Bool} (h : wantO ops fr o orc O = (d,orc',O')) : (O' → O)∧(O' → wantedA ops fr o = d):=by
 unfold wantO at h
 split at h
 ·rename_i hg
  simp only [Prod.mk.injEq] at h
  obtain ⟨rfl,rfl,rfl⟩:=h
  exact ⟨id,fun _ => by simp [wantedA,hg]⟩
 ·split at h
  ·simp only [Prod.mk.injEq] at h
   obtain ⟨rfl,rfl,rfl⟩:=h
   exact ⟨fun h => h.1,fun h => h.2⟩
  ·simp only [Prod.mk.injEq] at h
   obtain ⟨rfl,rfl,rfl⟩:=h
   exact ⟨id,fun _ => rfl⟩
theorem regO_mono {callF : CallO} (hC : CallOkO P pr w0 E.ng callF) (ops : Array Oper) : ∀ (l : List Oper) {fr : Fr} {μ : Hp} {orc : List Ans} {O : Prop} {e : Exit} {fr' : Fr} {μ' : Hp} {orc' : List Ans} {O' : Prop},
  regO P E callF ops l fr μ orc O = some (e,fr',μ',orc',O') → O' → O:=by
 intro l
 induction l with
 | nil => intro fr μ orc O e fr' μ' orc' O' h hO;simp only [regO,Option.some.injEq,Prod.mk.injEq] at h;obtain ⟨_,_,_,_,rfl⟩:=h;exact hO
 | cons o rest ih =>
  intro fr μ orc O e fr' μ' orc' O' h hO
  simp only [regO] at h
  split at h
  ·cases h
  rename_i orcG μG OG hgh
  apply ghosts_mono _ hgh
  split at h
  ·cases h
  ·rename_i orc1 O1 _ hw
   have hw:=wantO_spec hw
   split at h
   ·exact hw.1 (ih h hO)
   ·cases h
  ·rename_i orc1 O1 _ hw
   have hw:=wantO_spec hw
   apply hw.1
   split at h
   ·split at h
    ·exact andO_left (ih h hO)
    ·cases h
   ·split at h
    ·exact andO_left (ih h hO)
    ·cases h
   ·simp only [Option.some.injEq,Prod.mk.injEq] at h
    obtain ⟨_,_,_,_,rfl⟩:=h
    exact andO_left hO
   ·split at h
    ·rename_i hc
     split at h
     ·exact andO_left ((hC _ _ _ _ _ _ _ _ _ hc).1 (ih h hO))
     ·cases h
    ·rename_i hc
     simp only [Option.some.injEq,Prod.mk.injEq] at h
     obtain ⟨_,_,_,_,rfl⟩:=h
     exact andO_left ((hC _ _ _ _ _ _ _ _ _ hc).1 hO)
    ·cases h
   ·cases h
variable (hE : EnvOk P E)
include hE
theorem regO_ok {callF : CallO} (hC : CallOkO P pr w0 E.ng callF) (ops : Array Oper) {Q : Exit → Act → World → Prop} : ∀ (l : List Oper) (k : Nat),ops.toList.drop k = l → ∀ {fr : Fr} {μ : Hp} {orc : List Ans} {O : Prop} {e : Exit} {fr' : Fr} {μ' : Hp} {orc' : List Ans} {O' : Prop},
  regO P E callF ops l fr μ orc O = some (e,fr',μ',orc',O') → O' → ∀ {ι : Ren} {w : World} {a : Act},Sim pr w0 E.ng ι μ w → FrRel ι μ.next fr a → Goal pr w0 E.ng ι μ Q e fr' μ' → wpOps P ops Q (List.range' k l.length) a w:=by
 intro l
 induction l with
 | nil =>
  intro k hk fr μ orc O e fr' μ' orc' O' h hO ι w a hS hF hG
  simp only [regO,Option.some.injEq,Prod.mk.injEq] at h
  obtain ⟨rfl,rfl,rfl,_,_⟩:=h
  exact hG ι a w (Ext.refl _ _) (Nat.le_refl _) hS hF
 | cons o rest ih =>
  intro k hk fr μ orc O e fr' μ' orc' O' h hO ι w a hS hF hG
  have ho : ops[k]? = some o:=by
   have h0 : (ops.toList.drop k)[0]? = some o:=by rw [hk];rfl
   rw [List.getElem?_drop] at h0
   simpa using h0
  have hk' : ops.toList.drop (k + 1) = rest:=by
   have:=congrArg (List.drop 1) hk
   simpa [List.drop_drop] using this
  simp only [regO] at h
  split at h
  ·cases h
  rename_i orcG μG OG hgh
  have hOG : OG:=by
   refine regO_mono hC ops (o :: rest) (fr:=fr) (μ:=μG) (orc:=orcG) (O:=OG) (e:=e) (fr':=fr') (μ':=μ') (orc':=orc') ?_ hO
   simp only [regO,ghosts_idem _ hgh]
   exact h
  obtain ⟨ιG,hxG,hnG,hSG⟩:=ghosts_ok _ hgh hOG hS
  have hFG : FrRel ιG μG.next fr a:=hF.mono hxG hnG
  have hGG : Goal pr w0 E.ng ιG μG Q e fr' μ':=hG.weaken hxG hnG
  clear hS hF hG
  have hS:=hSG
  have hF:=hFG
  have hG:=hGG
  clear hSG hFG hGG hxG hnG hgh hOG
  split at h
  ·cases h
  ·rename_i orc1 O1 hkn hw
   have hw:=wantO_spec hw
   split at h
   ·rename_i fr1 hp
    have hO1:=regO_mono hC ops rest h hO
    simp only [List.length_cons,List.range'_succ,wpOps,ho,wanted_eq hF ops o hkn,hw.2 hO1,Bool.false_eq_true,if_false]
    have:=hF.put hp (by simp)
    rw [conc_undef] at this
    exact ih (k + 1) hk' h hO hS this hG
   ·cases h
  ·rename_i orc1 O1 hkn hw
   have hw:=wantO_spec hw
   split at h
   ·rename_i v μ1 q hop
    split at h
    ·rename_i fr1 hp
     have hO1:=regO_mono hC ops rest h hO
     simp only [List.length_cons,List.range'_succ,wpOps,ho,wanted_eq hF ops o hkn,hw.2 (andO_left hO1),if_true]
     left
     have hrel:=op_rel (ng:=E.ng) hE hS o a.eval fr.ev (fun x _ hx => ev_ok hS hF x hx)
     unfold Oper.wp
     rw [opS_ok hop (andO_right hO1)] at hrel
     obtain ⟨ι',w',hr,hS',hx,hl,hb⟩:=hrel
     have hF':=(hF.mono hx hl).put hp hb
     have hnext:=ih (k + 1) hk' h hO hS' hF' (hG.weaken hx hl)
     rcases hr with hr | ⟨hr,rfl⟩
     ·rw [hr];exact hnext
     ·rw [hr];rw [conc_undef] at hnext;exact hnext
    ·cases h
   ·rename_i d μ1 q hop
    split at h
    ·rename_i fr1 hp
     have hO1:=regO_mono hC ops rest h hO
     simp only [List.length_cons,List.range'_succ,wpOps,ho,wanted_eq hF ops o hkn,hw.2 (andO_left hO1),if_true]
     left
     have hrel:=op_rel (ng:=E.ng) hE hS o a.eval fr.ev (fun x _ hx => ev_ok hS hF x hx)
     unfold Oper.wp
     rw [opS_ok hop (andO_right hO1)] at hrel
     obtain ⟨rfl,hr,hb⟩:=hrel
     rw [hr]
     have:=(hF.defer hb).put hp (by simp)
     rw [conc_undef] at this
     exact ih (k + 1) hk' h hO hS this hG
    ·cases h
   ·rename_i v μ1 q hop
    simp only [Option.some.injEq,Prod.mk.injEq] at h
    obtain ⟨rfl,rfl,rfl,_,rfl⟩:=h
    simp only [List.length_cons,List.range'_succ,wpOps,ho,wanted_eq hF ops o hkn,hw.2 (andO_left hO),if_true]
    left
    have hrel:=op_rel (ng:=E.ng) hE hS o a.eval fr.ev (fun x _ hx => ev_ok hS hF x hx)
    unfold Oper.wp
    rw [opS_ok hop (andO_right hO)] at hrel
    obtain ⟨rfl,hr,hb⟩:=hrel
    rw [hr]
    have:=hG _ a w (Ext.refl _ _) (Nat.le_refl _) hS hF (by simp;exact hb)
    simpa [concP,Oper.upon] using this
   ·rename_i f args μ1 q hop
    have hO1 : andO O1 q:=by
     split at h
     ·rename_i hc
      split at h
      ·exact (hC _ _ _ _ _ _ _ _ _ hc).1 (regO_mono hC ops rest h hO)
      ·cases h
     ·rename_i hc
      simp only [Option.some.injEq,Prod.mk.injEq] at h
      obtain ⟨_,_,_,_,rfl⟩:=h
      exact (hC _ _ _ _ _ _ _ _ _ hc).1 hO
     ·cases h
    simp only [List.length_cons,List.range'_succ,wpOps,ho,wanted_eq hF ops o hkn,hw.2 (andO_left hO1),if_true]
    left
    have hrel:=op_rel (ng:=E.ng) hE hS o a.eval fr.ev (fun x _ hx => ev_ok hS hF x hx)
    unfold Oper.wp
    rw [opS_ok hop (andO_right hO1)] at hrel
    obtain ⟨hμ,hr,hb⟩:=hrel
    subst hμ
    rw [hr]
    split at h
    ·rename_i v μ2 orc3 O3 hc
     split at h
     ·rename_i fr1 hp
      have hO3:=regO_mono hC ops rest h hO
      refine ((hC _ _ _ _ _ _ _ _ _ hc).2 hO3 _ w hS hb).mono ?_
      rintro e' w' ⟨ι',hx,hl,hS',hend⟩
      cases e' with
      | returned v' =>
       obtain ⟨rfl,hbv⟩:=hend
       exact ih (k + 1) hk' h hO hS' ((hF.mono hx hl).put hp hbv) (hG.weaken hx hl)
      | _ => exact hend.elim
     ·cases h
    ·rename_i ch μ2 orc3 O3 hc
     simp only [Option.some.injEq,Prod.mk.injEq] at h
     obtain ⟨rfl,rfl,rfl,_,rfl⟩:=h
     refine ((hC _ _ _ _ _ _ _ _ _ hc).2 hO _ w hS hb).mono ?_
     rintro e' w' ⟨ι',hx,hl,hS',hend⟩
     cases e' with
     | panicked ch' =>
      obtain ⟨rfl,hbv⟩:=hend
      exact hG ι' a w' hx hl hS' (hF.mono hx hl) hbv
     | _ => exact hend.elim
    ·cases h
   ·cases h
theorem leaveO_ok {fn : Func} {c : Code} {f : FuncId} {args : List Value} {fr : Fr} {rc : CodeO} (hrc : CodeOkO P E pr w0 rc) (hf : E.fn f = some fn) (hc : fn.body = some c) (hen : Fr.enter fn args = some fr)
  {μ : Hp} {orc : List Ans} {O : Prop} {e : Ending} {μ' : Hp} {orc' : List Ans} {O' : Prop} (h : leaveO E fn (rc f [] c fr μ orc O) = some (e,μ',orc',O')) :
  (O' → O)∧(O' → ∀ ι w,Sim pr w0 E.ng ι μ w → (∀ x ∈ args,Bd μ.next x) →
  Calls P f (args.map (conc ι)).toArray w fun e' w' => ∃ ι',Ext μ.next ι ι'∧μ.next ≤ μ'.next∧Sim pr w0 E.ng ι' μ' w'∧EndRel ι' μ'.next e e'):=by
 have hhere : Here E f [] c:=⟨fn,c,hf,hc,rfl⟩
 cases hr : rc f [] c fr μ orc O with
 | none => rw [hr] at h;simp [leaveO] at h
 | some q =>
  obtain ⟨ex,fr',μ1,orc1,O1⟩:=q
  rw [hr] at h
  obtain ⟨hm,hok⟩:=hrc f [] c hhere _ _ _ _ _ _ _ _ _ hr
  have hO' : O' = O1:=by
   unfold leaveO at h
   split at h
   ·rename_i heq;simp only [Option.some.injEq,Prod.mk.injEq] at heq;obtain ⟨rfl,rfl,rfl,rfl,rfl⟩:=heq
    split at h
    ·split at h
     ·simp only [Option.some.injEq,Prod.mk.injEq] at h;exact h.2.2.2.symm
     ·cases h
    ·cases h
   ·rename_i heq;simp only [Option.some.injEq,Prod.mk.injEq] at heq;obtain ⟨rfl,rfl,rfl,rfl,rfl⟩:=heq
    split at h
    ·split at h
     ·simp only [Option.some.injEq,Prod.mk.injEq] at h;exact h.2.2.2.symm
     ·cases h
    ·cases h
   ·rename_i heq;simp only [Option.some.injEq,Prod.mk.injEq] at heq;obtain ⟨rfl,rfl,rfl,rfl,rfl⟩:=heq
    split at h
    ·simp only [Option.some.injEq,Prod.mk.injEq] at h;exact h.2.2.2.symm
    ·cases h
   ·cases h
  subst hO'
  refine ⟨hm,fun hO ι w hS hb => ?_⟩
  have hfn:=(hE.fn f fn hf).1
  have hfr:=enter_ok (ι:=ι) hen hb
  refine calls_of_wp hfn hc ?_
  refine hok hO ι w _ _ hS hfr ?_
  have h2 : leaveA E fn (some (ex,fr',μ1)) = some (e,μ'):=by
   unfold leaveO at h
   unfold leaveA
   cases ex <;> simp only at h ⊢ <;> (try (cases h;done)) <;> (cases hd : fr'.df <;> rw [hd] at h <;> simp only at h ⊢) <;> (try (cases h;done))
   ·cases hvs : resultsA E fr' μ1 fn.results.toList <;> rw [hvs] at h <;> simp at h
    simp [h]
   ·cases hvs : resultsA E fr' μ1 fn.results.toList <;> rw [hvs] at h <;> simp at h
    simp [h]
   ·simp at h
    simp [h]
  clear h
  have fin : ∀ (k : Exit),(k = .normal ∨ k = .ret) → leaveA E fn (some (k,fr',μ1)) = some (e,μ') → Goal pr w0 E.ng ι μ (bodyPost P fn fun e' w' => ∃ ι',Ext μ.next ι ι'∧μ.next ≤ μ'.next∧Sim pr w0 E.ng ι' μ' w'∧EndRel ι' μ'.next e e') k fr' μ1:=by
   intro k hk h
   have h' : (match fr'.df with
    | [] => match resultsA E fr' μ1 fn.results.toList with
     | some vs => some (Ending.returned (packed vs),μ1)
     | none => none
    | _ :: _ => none) = some (e,μ'):=by rcases hk with rfl | rfl <;> exact h
   cases hd : fr'.df with
   | cons d ds => rw [hd] at h';cases h'
   | nil =>
    rw [hd] at h'
    cases hvs : resultsA E fr' μ1 fn.results.toList with
    | none => simp [hvs] at h'
    | some vs =>
     simp [hvs] at h'
     obtain ⟨rfl,rfl⟩:=h'
     have main : ∀ ι' a' w',Ext μ.next ι ι' → μ.next ≤ μ1.next → Sim pr w0 E.ng ι' μ1 w' → FrRel ι' μ1.next fr' a' → a'.defers = []∧∃ v,(results fn a'.tmps).run P w' = .ok v w' ∧
       ∃ ι',Ext μ.next ι ι'∧μ.next ≤ μ1.next∧Sim pr w0 E.ng ι' μ1 w'∧EndRel ι' μ1.next (.returned (packed vs)) (.returned v):=by
      intro ι' a' w' hx hl hS' hF'
      obtain ⟨h1,h2⟩:=results_ok hE hS' hF' hvs
      exact ⟨by rw [hF'.df,hd];rfl,_,h1,ι',hx,hl,hS',rfl,h2⟩
     rcases hk with rfl | rfl <;> exact main
  cases ex with
  | normal => exact fin .normal (.inl rfl) h2
  | ret => exact fin .ret (.inr rfl) h2
  | panic ch =>
   simp only [leaveA] at h2
   cases hd : fr'.df with
   | cons d ds => rw [hd] at h2;cases h2
   | nil =>
    rw [hd] at h2
    simp at h2
    obtain ⟨rfl,rfl⟩:=h2
    intro ι' a' w' hx hl hS' hF' hbp
    exact ⟨by rw [hF'.df,hd];rfl,ι',hx,hl,hS',rfl,hbp⟩
  | exit id => simp [leaveA] at h2
  | goto l => simp [leaveA] at h2
  | outgrown => simp [leaveA] at h2
theorem callO_ok {s : Sm} (hs : SmOk P E pr w0 s) {rc : CodeO} (hrc : CodeOkO P E pr w0 rc) : CallOkO P pr w0 E.ng (callO E s rc):=by
 intro f args μ orc O e μ' orc' O' h
 unfold callO at h
 cases hS : s.S f with
 | some g =>
  simp only [hS] at h
  split at h
  ·rename_i e1 μ1 p hg
   simp only [Option.some.injEq,Prod.mk.injEq] at h
   obtain ⟨rfl,rfl,_,rfl⟩:=h
   exact ⟨fun h => h.1,fun h ι w hS' hb => hs.S f g hS args μ _ _ p hg h.2 ι w hS' hb⟩
  ·cases h
 | none =>
  simp only [hS] at h
  cases hf : E.fn f with
  | none => simp [hf] at h
  | some fn =>
   simp only [hf] at h
   cases hc : fn.body with
   | none => simp [hc] at h
   | some c =>
    cases hen : Fr.enter fn args with
    | none => simp [hc,hen] at h
    | some fr =>
     simp only [hc,hen] at h
     exact leaveO_ok hE hrc hf hc hen h
omit hE in
theorem loopO_ok {rc : CodeO} (hrc : CodeOkO P E pr w0 rc) {f : FuncId} {p : List Nat} {c : Code} (hh : Here E f (0 :: p) c) : ∀ (n : Nat) {fr : Fr} {μ : Hp} {orc : List Ans} {O : Prop} {e : Exit} {fr' : Fr} {μ' : Hp} {orc' : List Ans} {O' : Prop},
  loopO rc f p c n fr μ orc O = some (e,fr',μ',orc',O') → (O' → O)∧(O' → ∀ {ι : Ren} {w : World} {a : Act} {Q : Exit → Act → World → Prop},
  Sim pr w0 E.ng ι μ w → FrRel ι μ.next fr a → Goal pr w0 E.ng ι μ Q e fr' μ' → Code.rounds P c Q n a w):=by
 intro n
 induction n with
 | zero => intro fr μ orc O e fr' μ' orc' O' h;simp [loopO] at h
 | succ n ih =>
  intro fr μ orc O e fr' μ' orc' O' h
  simp only [loopO] at h
  cases hr : rc f (0 :: p) c fr μ orc O with
  | none => simp [hr] at h
  | some q =>
   obtain ⟨e1,fr1,μ1,orc1,O1⟩:=q
   obtain ⟨hm,hok⟩:=hrc f (0 :: p) c hh _ _ _ _ _ _ _ _ _ hr
   cases e1 with
   | normal =>
    simp only [hr] at h
    obtain ⟨hm2,hok2⟩:=ih h
    refine ⟨fun hO => hm (hm2 hO),fun hO ι w a Q hS hF hG => ?_⟩
    refine hok (hm2 hO) ι w a _ hS hF ?_
    intro ι' a' w' hx hl hS' hF'
    exact hok2 hO hS' hF' (hG.weaken hx hl)
   | _ =>
    simp only [hr,Option.some.injEq,Prod.mk.injEq] at h
    obtain ⟨rfl,rfl,rfl,_,rfl⟩:=h
    refine ⟨hm,fun hO ι w a Q hS hF hG => hok hO ι w a _ hS hF hG⟩
open Classical in
noncomputable def callP (s : Sm) (run0 : CallF) : CallF:=fun f args μ =>
 match s.S f with
 | some g => match g args μ with
  | some (e,μ',p) => if p then some (e,μ') else none
  | none => none
 | none => run0 f args μ
omit hE in
theorem callP_ok {s : Sm} (hs : SmOk P E pr w0 s) {run0 : CallF} (h0 : CallsOk P pr w0 E.ng run0) : CallsOk P pr w0 E.ng (callP s run0):=by
 intro f args μ e μ' h ι w hS hb
 unfold callP at h
 split at h
 ·rename_i g hg
  split at h
  ·rename_i e1 μ1 p hr
   split at h
   ·rename_i hp
    simp only [Option.some.injEq,Prod.mk.injEq] at h
    obtain ⟨rfl,rfl⟩:=h
    exact hs.S f g hg args μ _ _ p hr hp ι w hS hb
   ·cases h
  ·cases h
 ·exact h0 f args μ e μ' h ι w hS hb
omit hE in
theorem callS_ok {s : Sm} {run0 : CallF} {f : FuncId} {args : List Value} {μ μ' : Hp} {O O' : Prop} {e : Ending} (h : callS s run0 f args μ O = some (e,μ',O')) : (O' → O)∧(O' → callP s run0 f args μ = some (e,μ')):=by
 unfold callS at h
 unfold callP
 split at h
 ·rename_i g hg
  split at h
  ·rename_i e1 μ1 p hr
   simp only [Option.some.injEq,Prod.mk.injEq] at h
   obtain ⟨rfl,rfl,rfl⟩:=h
   exact ⟨fun h => h.1,fun h => by simp only [hr,if_pos h.2]⟩
  ·cases h
 ·split at h
  ·rename_i e1 μ1 hr
   simp only [Option.some.injEq,Prod.mk.injEq] at h
   obtain ⟨rfl,rfl,rfl⟩:=h
   exact ⟨id,fun _ => hr⟩
  ·cases h
omit hE in
theorem stepsO_ok {s : Sm} {run0 : CallF} (ops : Array Oper) : ∀ (l : List Oper) (fr : Fr) (μ : Hp) (orc : List Ans) (O : Prop) (k : Nat) (steps : List Step) (heaps : List Hp) (fr' : Fr) (orc' : List Ans) (O' : Prop),
  stepsO P E s run0 ops l fr μ orc O k = some (steps,heaps,fr',orc',O') → (O' → O)∧(O' → stepsA P E (callP s run0) ops l fr μ k = some (steps,heaps,fr')):=by
 intro l
 induction l with
 | nil =>
  intro fr μ orc O k steps heaps fr' orc' O' h
  simp only [stepsO,Option.some.injEq,Prod.mk.injEq] at h
  obtain ⟨rfl,rfl,rfl,rfl,rfl⟩:=h
  exact ⟨id,fun _ => rfl⟩
 | cons o rest ih =>
  intro fr μ orc O k steps heaps fr' orc' O' h
  simp only [stepsO] at h
  split at h
  ·cases h
  ·rename_i orc1 O1 hkn hw
   have hw:=wantO_spec hw
   split at h
   ·rename_i fr1 hp
    split at h
    ·rename_i st r hrest
     obtain ⟨hs,fr2,orc2,O2⟩:=r
     simp only [Option.some.injEq,Prod.mk.injEq] at h
     obtain ⟨rfl,rfl,rfl,rfl,rfl⟩:=h
     obtain ⟨h1,h2⟩:=ih _ _ _ _ _ _ _ _ _ _ hrest
     refine ⟨fun h => hw.1 (h1 h),fun h => ?_⟩
     simp only [stepsA,hkn,hw.2 (h1 h),hp,h2 h,Option.map_some]
    ·cases h
   ·cases h
  ·rename_i orc1 O1 hkn hw
   have hw:=wantO_spec hw
   split at h
   ·rename_i v μ1 q hop hlo
    cases hb : Nat.beq μ1.next μ.next with
    | false => rw [hb] at h;cases h
    | true =>
     rw [hb,cond_true] at h
     split at h
     ·rename_i fr1 hp
      split at h
      ·rename_i st r hrest
       obtain ⟨hs,fr2,orc2,O2⟩:=r
       simp only [Option.some.injEq,Prod.mk.injEq] at h
       obtain ⟨rfl,rfl,rfl,rfl,rfl⟩:=h
       obtain ⟨h1,h2⟩:=ih _ _ _ _ _ _ _ _ _ _ hrest
       refine ⟨fun h => hw.1 (andO_left (h1 h)),fun h => ?_⟩
       simp only [stepsA,hkn,hw.2 (andO_left (h1 h)),opS_ok hop (andO_right (h1 h)),hlo,hb,cond_true,hp,h2 h,Option.map_some]
      ·cases h
     ·cases h
   ·rename_i v μ1 q hop hlo
    split at h
    ·rename_i fr1 hp
     split at h
     ·rename_i st hs r hrest
      obtain ⟨fr2,orc2,O2⟩:=r
      simp only [Option.some.injEq,Prod.mk.injEq] at h
      obtain ⟨rfl,rfl,rfl,rfl,rfl⟩:=h
      obtain ⟨h1,h2⟩:=ih _ _ _ _ _ _ _ _ _ _ hrest
      refine ⟨fun h => hw.1 (andO_left (h1 h)),fun h => ?_⟩
      simp only [stepsA,hkn,hw.2 (andO_left (h1 h)),opS_ok hop (andO_right (h1 h)),hlo,hp,h2 h,Option.map_some]
     ·cases h
    ·cases h
   ·rename_i f args μ1 q hop hlo
    split at h
    ·rename_i v μ2 O3 hc
     have hc:=callS_ok hc
     split at h
     ·rename_i fr1 hp
      split at h
      ·rename_i st hs r hrest
       obtain ⟨fr2,orc2,O2⟩:=r
       simp only [Option.some.injEq,Prod.mk.injEq] at h
       obtain ⟨rfl,rfl,rfl,rfl,rfl⟩:=h
       obtain ⟨h1,h2⟩:=ih _ _ _ _ _ _ _ _ _ _ hrest
       refine ⟨fun h => hw.1 (andO_left (hc.1 (h1 h))),fun h => ?_⟩
       simp only [stepsA,hkn,hw.2 (andO_left (hc.1 (h1 h))),opS_ok hop (andO_right (hc.1 (h1 h))),hlo,hc.2 (h1 h),hp,h2 h,Option.map_some]
      ·cases h
     ·cases h
    ·cases h
   ·cases h
omit hE in
mutual
theorem flatV_eq : ∀ (n : Nat) (v : Value),flatV n v = true → eqV n v v = true
 | 0,v,h => by simp [flatV] at h
 | n + 1,v,h => by
  cases v <;> simp [flatV,eqV] at h ⊢
  case agg x => exact flatVs_eq n x.toList h
  case tuple x => exact flatVs_eq n x.toList h
theorem flatVs_eq : ∀ (n : Nat) (vs : List Value),flatV.flatVs n vs = true → eqV.eqVs n vs vs = true
 | _,[],_ => rfl
 | n,a :: as,h => by
  simp only [flatV.flatVs,Bool.and_eq_true] at h
  simp only [eqV.eqVs,Bool.and_eq_true]
  exact ⟨flatV_eq n a h.1,flatVs_eq n as h.2⟩
end
omit hE in
theorem sameP_ok {o : Oper} {s : Step} {μ : Hp} (h : sameP P E o s μ) : sameAt P E o s μ = true:=by
 unfold sameP at h
 unfold sameAt
 split at h
 ·rename_i hv
  obtain ⟨⟨h1,h2⟩,rfl⟩:=h
  rw [hv]
  simp only [h1,flatV_eq _ _ h2,Bool.and_self]
 ·exact h.elim
omit hE in
theorem heapsP_ok {o : Oper} {s : Step} {lo hi : Nat} : ∀ (hs : List Hp) (k : Nat),heapsP P E o s lo hi hs k → heapsOk P E o s lo hi hs k = true
 | [],_,_ => rfl
 | μ :: r,k,h => by
  simp only [heapsP] at h
  simp only [heapsOk]
  cases hb : (Nat.blt k lo || Nat.blt hi k) with
  | true => rw [hb] at h;simp only [Bool.true_or,Bool.true_and];exact heapsP_ok r (k + 1) h
  | false => rw [hb] at h;simp only [Bool.false_or,sameP_ok h.1,Bool.true_and];exact heapsP_ok r (k + 1) h.2
omit hE in
theorem quietP_ok {b : List Nat} {ls : List Bool} {heaps : List Hp} : ∀ (l : List Oper) (st : List Step) (j : Nat),quietP P E b ls heaps l st j → quietOk P E b ls heaps l st j = true
 | [],_,_,_ => by simp [quietOk]
 | _ :: _,[],_,_ => by simp [quietOk]
 | o :: os,s :: ss,j,h => by
  simp only [quietP] at h
  simp only [quietOk,Bool.and_eq_true]
  refine ⟨?_,quietP_ok os ss (j + 1) h.2⟩
  have h1:=h.1
  unfold quietAtP at h1
  unfold quietAt
  cases hl : (loud E o.op || !s.on) with
  | true => simp
  | false =>
   rw [hl] at h1
   simp only at h1
   simp only [Bool.false_or]
   cases hc : (Nat.beq (countB ls (fun i => (b.getD j 0).testBit i) 0) s.k && Nat.beq (countB ls (fun i => !(b.getD i 0).testBit j) 0) s.k) with
   | true => simp
   | false => rw [hc] at h1;simp only [Bool.false_or];exact heapsP_ok _ _ h1
omit hE in
theorem drawnO_ok {s : Sm} {run0 : CallF} {ops : Array Oper} {fr fr' : Fr} {μ μ' : Hp} {orc orc' : List Ans} {O O' : Prop} {e : Exit} (h : drawnO P E s run0 ops fr μ orc O = some (e,fr',μ',orc',O')) : e = .normal∧(O' → O)∧(O' → drawnA P E (callP s run0) ops fr μ = some (fr',μ')):=by
 unfold drawnO at h
 simp only at h
 cases hopen : openOk E ops (befA ops.toList []) with
 | false => rw [hopen] at h;cases h
 | true =>
  rw [hopen,cond_true] at h
  split at h
  ·rename_i steps heaps fr1 orc1 O1 hst
   obtain ⟨h1,h2⟩:=stepsO_ok ops _ _ _ _ _ _ _ _ _ _ _ hst
   split at h
   ·rename_i m hm
    simp only [Option.some.injEq,Prod.mk.injEq] at h
    obtain ⟨rfl,rfl,rfl,rfl,rfl⟩:=h
    refine ⟨rfl,fun hO => h1 hO.1,fun hO => ?_⟩
    unfold drawnA
    simp only [hopen,cond_true,h2 hO.1,quietP_ok _ _ _ hO.2,hm,Option.map_some]
   ·cases h
  ·cases h
omit hE in
theorem opA_callV {ev : Operand → Value} {o : Oper} {μ μ' : Hp} {f : FuncId} {args : List Value} (hc : isCallV o = true) (h : opA P E ev o μ = .call f args μ') : μ' = μ:=by
 unfold isCallV at hc
 unfold opA at h
 split at hc
 ·rename_i c hop
  split at hc
  ·rename_i fo hcal
   rw [hop] at h
   simp only [hcal] at h
   cases hb : (o.op.operands.toList.all (okOpnd E ev)) <;> simp only [hop] at hb <;> rw [hb] at h
   ·cases h
   ·simp only [cond_true] at h
    split at h
    ·rename_i g a hv
     cases hfn : (E.fn g).isSome <;> rw [hfn] at h <;> simp at h
     exact h.2.2.symm
    ·cases h
  ·cases hc
 ·cases hc
def QSteps (P : Program) (E : Env) (μ : Hp) : List Oper → List Step → Prop
 | o :: os,s :: ss => (loud E o.op = true ∨ s.on = false ∨ sameAt P E o s μ = true)∧QSteps P E μ os ss
 | _,_ => True
omit hE in
theorem heapsOk_all {o : Oper} {s : Step} {lo hi : Nat} {μ : Hp} (h : sameAt P E o s μ = true) : ∀ (hs : List Hp) (k : Nat),(∀ m ∈ hs,m = μ) → heapsOk P E o s lo hi hs k = true
 | [],_,_ => rfl
 | m :: r,k,hm => by
  have h1 : m = μ:=hm m (by simp)
  subst h1
  simp only [heapsOk,h,Bool.or_true,Bool.true_and]
  exact heapsOk_all h r (k + 1) fun x hx => hm x (by simp [hx])
omit hE in
theorem quietOk_all {b : List Nat} {ls : List Bool} {heaps : List Hp} {μ : Hp} (hm : ∀ m ∈ heaps,m = μ) : ∀ (l : List Oper) (st : List Step) (j : Nat),QSteps P E μ l st → quietOk P E b ls heaps l st j = true
 | [],_,_,_ => by simp [quietOk]
 | _ :: _,[],_,_ => by simp [quietOk]
 | o :: os,s :: ss,j,h => by
  simp only [quietOk,Bool.and_eq_true]
  refine ⟨?_,quietOk_all hm os ss (j + 1) h.2⟩
  unfold quietAt
  rcases h.1 with h1 | h1 | h1
  ·simp [h1]
  ·simp [h1]
  ·simp [heapsOk_all h1 heaps 0 hm]
omit hE in
theorem pureO_ok {s : Sm} {run0 : CallF} (hQ : ∀ f g,s.Q f = some g → s.S f = some (pureS g)) (ops : Array Oper) (μ : Hp) : ∀ (l : List Oper) (fr : Fr) (orc : List Ans) (O : Prop) (fr' : Fr) (orc' : List Ans) (O' : Prop),
  pureO P E s ops l fr μ orc O = some (fr',orc',O') → (O' → O)∧(O' → ∀ k,∃ steps heaps,stepsA P E (callP s run0) ops l fr μ k = some (steps,heaps,fr')∧(∀ m ∈ heaps,m = μ)∧heaps ≠ []∧QSteps P E μ l steps):=by
 intro l
 induction l with
 | nil =>
  intro fr orc O fr' orc' O' h
  simp only [pureO,Option.some.injEq,Prod.mk.injEq] at h
  obtain ⟨rfl,rfl,rfl⟩:=h
  exact ⟨id,fun _ k => ⟨[],[μ],rfl,by simp,by simp,trivial⟩⟩
 | cons o rest ih =>
  intro fr orc O fr' orc' O' h
  simp only [pureO] at h
  split at h
  ·cases h
  ·rename_i orc1 O1 hkn hw
   have hw:=wantO_spec hw
   split at h
   ·rename_i fr1 hp
    obtain ⟨h1,h2⟩:=ih _ _ _ _ _ _ h
    refine ⟨fun hO => hw.1 (h1 hO),fun hO k => ?_⟩
    obtain ⟨st,hs,h3,h4,h5,h6⟩:=h2 hO k
    refine ⟨{ fr,v:=undef,on:=false,k } :: st,hs,by simp only [stepsA,hkn,hw.2 (h1 hO),hp,h3,Option.map_some],h4,h5,.inr (.inl rfl),h6⟩
   ·cases h
  ·rename_i orc1 O1 hkn hw
   have hw:=wantO_spec hw
   split at h
   ·rename_i v μ1 q hop hlo
    cases hb : Nat.beq μ1.next μ.next && flatV 6 v with
    | false => rw [hb] at h;cases h
    | true =>
     rw [hb,cond_true] at h
     simp only [Bool.and_eq_true] at hb
     split at h
     ·rename_i fr1 hp
      obtain ⟨h1,h2⟩:=ih _ _ _ _ _ _ h
      refine ⟨fun hO => hw.1 (andO_left (h1 hO)),fun hO k => ?_⟩
      obtain ⟨st,hs,h3,h4,h5,h6⟩:=h2 hO k
      have hA:=opS_ok hop (andO_right (h1 hO))
      refine ⟨{ fr,v,on:=true,k } :: st,hs,by simp only [stepsA,hkn,hw.2 (andO_left (h1 hO)),hA,hlo,hb.1,cond_true,hp,h3,Option.map_some],h4,h5,.inr (.inr ?_),h6⟩
      simp only [sameAt,hA,hb.1,flatV_eq 6 v hb.2,Bool.and_self]
     ·cases h
   ·rename_i f args μ1 q hop hlo
    cases hc : isCallV o with
    | false => rw [hc] at h;cases h
    | true =>
     rw [hc,cond_true] at h
     split at h
     ·rename_i g hg
      split at h
      ·rename_i v p hgv
       split at h
       ·rename_i fr1 hp
        obtain ⟨h1,h2⟩:=ih _ _ _ _ _ _ h
        refine ⟨fun hO => hw.1 (andO_left (h1 hO).1),fun hO k => ?_⟩
        obtain ⟨st,hs,h3,h4,h5,h6⟩:=h2 hO (k + 1)
        have hpp : p:=(h1 hO).2
        have hA:=opS_ok hop (andO_right (h1 hO).1)
        have hμ:=opA_callV hc hA
        subst hμ
        have hcall : callP s run0 f args μ1 = some (.returned v,μ1):=by
         simp only [callP,hQ f g hg,pureS,hgv,if_pos hpp]
        refine ⟨{ fr,v,on:=true,k } :: st,μ1 :: hs,by simp only [stepsA,hkn,hw.2 (andO_left (h1 hO).1),hA,hlo,hcall,hp,h3,Option.map_some],?_,by simp,.inl hlo,h6⟩
        intro m hm
        rcases List.mem_cons.1 hm with rfl | hm
        ·rfl
        ·exact h4 m hm
       ·cases h
      ·cases h
     ·cases h
   ·cases h
omit hE in
theorem drawnP_ok {s : Sm} {run0 : CallF} (hQ : ∀ f g,s.Q f = some g → s.S f = some (pureS g)) {ops : Array Oper} {fr fr' : Fr} {μ μ' : Hp} {orc orc' : List Ans} {O O' : Prop} {e : Exit} (h : drawnP P E s ops fr μ orc O = some (e,fr',μ',orc',O')) : e = .normal∧(O' → O)∧(O' → drawnA P E (callP s run0) ops fr μ = some (fr',μ')):=by
 unfold drawnP at h
 cases hopen : openOk E ops (befA ops.toList []) with
 | false => rw [hopen] at h;cases h
 | true =>
  rw [hopen,cond_true] at h
  split at h
  ·rename_i fr1 orc1 O1 hst
   simp only [Option.some.injEq,Prod.mk.injEq] at h
   obtain ⟨rfl,rfl,rfl,rfl,rfl⟩:=h
   obtain ⟨h1,h2⟩:=pureO_ok (run0:=run0) hQ ops μ _ _ _ _ _ _ _ hst
   refine ⟨rfl,h1,fun hO => ?_⟩
   obtain ⟨st,hs,h3,h4,h5,h6⟩:=h2 hO 0
   unfold drawnA
   have hl : hs.getLast? = some μ:=by
    rw [List.getLast?_eq_some_getLast h5,h4 _ (List.getLast_mem h5)]
   simp only [hopen,cond_true,h3,quietOk_all h4 _ _ _ h6,hl,Option.map_some]
  ·cases h
omit hE in
theorem drawnOP_ok {s : Sm} {run0 : CallF} (hQ : ∀ f g,s.Q f = some g → s.S f = some (pureS g)) {ops : Array Oper} {fr fr' : Fr} {μ μ' : Hp} {orc orc' : List Ans} {O O' : Prop} {e : Exit} (h : drawnOP P E s run0 ops fr μ orc O = some (e,fr',μ',orc',O')) : e = .normal∧(O' → O)∧(O' → drawnA P E (callP s run0) ops fr μ = some (fr',μ')):=by
 unfold drawnOP at h
 split at h
 ·exact drawnP_ok hQ h
 ·exact drawnO_ok h
theorem codeStepO_ok (hmix : P.follows .mixedOrders = true) {s : Sm} (hs : SmOk P E pr w0 s) {run0 : CallF} (h0 : CallsOk P pr w0 E.ng run0) {rc : CodeO} (hrc : CodeOkO P E pr w0 rc) : CodeOkO P E pr w0 (codeStepO P E s run0 rc):=by
 intro f p c hh fr μ orc O e fr' μ' orc' O' h
 have hC:=callO_ok hE hs hrc
 unfold codeStepO at h
 cases hL : s.L f p with
 | some ℓ =>
  simp only [hL] at h
  split at h
  ·rename_i e1 fr1 μ1 q hl
   simp only [Option.some.injEq,Prod.mk.injEq] at h
   obtain ⟨rfl,rfl,rfl,_,rfl⟩:=h
   refine ⟨fun h => h.1,fun h ι w a Q hS hF hG => ?_⟩
   obtain ⟨fn,b,hf,hb,hsub⟩:=hh
   exact hs.L f p ℓ hL fn b c hf hb hsub fr μ _ _ _ q hl h.2 ι w a Q hS hF hG
  ·cases h
 | none =>
  simp only [hL] at h
  cases c with
  | skip => simp only [Option.some.injEq,Prod.mk.injEq] at h;obtain ⟨rfl,rfl,rfl,_,rfl⟩:=h;exact ⟨id,fun _ ι w a Q hS hF hG => wp_skip (hG ι a w (Ext.refl _ _) (Nat.le_refl _) hS hF)⟩
  | label l => simp only [Option.some.injEq,Prod.mk.injEq] at h;obtain ⟨rfl,rfl,rfl,_,rfl⟩:=h;exact ⟨id,fun _ ι w a Q hS hF hG => wp_label (hG ι a w (Ext.refl _ _) (Nat.le_refl _) hS hF)⟩
  | exit id' => simp only [Option.some.injEq,Prod.mk.injEq] at h;obtain ⟨rfl,rfl,rfl,_,rfl⟩:=h;exact ⟨id,fun _ ι w a Q hS hF hG => wp_exit (hG ι a w (Ext.refl _ _) (Nat.le_refl _) hS hF)⟩
  | ret => simp only [Option.some.injEq,Prod.mk.injEq] at h;obtain ⟨rfl,rfl,rfl,_,rfl⟩:=h;exact ⟨id,fun _ ι w a Q hS hF hG => wp_ret (hG ι a w (Ext.refl _ _) (Nat.le_refl _) hS hF)⟩
  | goto l => simp at h
  | refuse y => simp at h
  | rangeFunc f ps x y => simp at h
  | region id ops draw =>
   cases draw with
   | false =>
    simp only at h
    refine ⟨regO_mono hC ops _ h,fun hO ι w a Q hS hF hG => wp_region ?_⟩
    have hlen : List.range ops.size = List.range' 0 ops.toList.length:=by simp [List.range_eq_range']
    rw [hlen]
    exact regO_ok hE hC ops ops.toList 0 (by simp) h hO hS hF hG
   | true =>
    simp only at h
    split at h
    ·rename_i orcG μG OG hgh
     obtain ⟨rfl,h1,h2⟩:=drawnOP_ok hs.Q h
     refine ⟨fun hO => ghosts_mono _ hgh (h1 hO),fun hO ι w a Q hS hF hG => ?_⟩
     obtain ⟨ιG,hxG,hnG,hSG⟩:=ghosts_ok _ hgh (h1 hO) hS
     have hFG : FrRel ιG μG.next fr a:=hF.mono hxG hnG
     have hGG:=hG.weaken (μ1:=μG) hxG hnG
     exact wp_region_any hmix (drawn_ok hE (callP_ok hs h0) (h2 hO) hSG.drew hFG hGG)
    ·cases h
  | seq x y =>
   simp only at h
   cases hr : rc f (0 :: p) x fr μ orc O with
   | none => simp [hr] at h
   | some q =>
    obtain ⟨e1,fr1,μ1,orc1,O1⟩:=q
    obtain ⟨hm,hok⟩:=hrc f (0 :: p) x (hh.child rfl) _ _ _ _ _ _ _ _ _ hr
    cases e1 with
    | normal =>
     simp only [hr] at h
     obtain ⟨hm2,hok2⟩:=hrc f (1 :: p) y (hh.child rfl) _ _ _ _ _ _ _ _ _ h
     refine ⟨fun hO => hm (hm2 hO),fun hO ι w a Q hS hF hG => wp_seq ?_⟩
     refine hok (hm2 hO) ι w a _ hS hF ?_
     intro ι' a' w' hx hl hS' hF'
     exact hok2 hO ι' w' a' Q hS' hF' (hG.weaken hx hl)
    | _ =>
     simp only [hr,Option.some.injEq,Prod.mk.injEq] at h
     obtain ⟨rfl,rfl,rfl,_,rfl⟩:=h
     exact ⟨hm,fun hO ι w a Q hS hF hG => wp_seq (hok hO ι w a _ hS hF hG)⟩
  | cond x y z =>
   simp only at h
   cases ho : okOpnd E fr.ev x with
   | false => simp [ho] at h
   | true =>
    simp only [ho,cond_true] at h
    have hev : ∀ {ι : Ren} {w : World} {a : Act} {t : Bool},Sim pr w0 E.ng ι μ w → FrRel ι μ.next fr a → fr.ev x = .bool t → a.eval x = .bool t:=by
     intro ι w a t hS hF hb
     have:=(ev_ok hS hF x ho).1
     rw [hb,conc_bool] at this
     exact this
    split at h
    ·rename_i t hb
     split at h
     ·obtain ⟨hm,hok⟩:=hrc f (0 :: p) y (hh.child rfl) _ _ _ _ _ _ _ _ _ h
      refine ⟨fun hO => (hm hO).1,fun hO ι w a Q hS hF hG => ?_⟩
      have ht:=(hm hO).2
      subst ht
      exact wp_cond_true (hev hS hF hb) (hok hO ι w a Q hS hF hG)
     ·obtain ⟨hm,hok⟩:=hrc f (1 :: p) z (hh.child rfl) _ _ _ _ _ _ _ _ _ h
      refine ⟨fun hO => (hm hO).1,fun hO ι w a Q hS hF hG => ?_⟩
      have ht:=(hm hO).2
      subst ht
      exact wp_cond_false (hev hS hF hb) (hok hO ι w a Q hS hF hG)
     ·split at h
      ·obtain ⟨hm,hok⟩:=hrc f (0 :: p) y (hh.child rfl) _ _ _ _ _ _ _ _ _ h
       exact ⟨hm,fun hO ι w a Q hS hF hG => wp_cond_true (hev hS hF hb) (hok hO ι w a Q hS hF hG)⟩
      ·obtain ⟨hm,hok⟩:=hrc f (1 :: p) z (hh.child rfl) _ _ _ _ _ _ _ _ _ h
       exact ⟨hm,fun hO ι w a Q hS hF hG => wp_cond_false (hev hS hF hb) (hok hO ι w a Q hS hF hG)⟩
    ·cases h
  | block id x =>
   simp only at h
   cases hr : rc f (0 :: p) x fr μ orc O with
   | none => simp [hr] at h
   | some q =>
    obtain ⟨e1,fr1,μ1,orc1,O1⟩:=q
    obtain ⟨hm,hok⟩:=hrc f (0 :: p) x (hh.child rfl) _ _ _ _ _ _ _ _ _ hr
    cases e1 with
    | exit id' =>
     simp only [hr] at h
     cases hid : Nat.beq id' id with
     | true =>
      simp only [hid,cond_true,Option.some.injEq,Prod.mk.injEq] at h
      obtain ⟨rfl,rfl,rfl,_,rfl⟩:=h
      have:=beq_yes hid
      refine ⟨hm,fun hO ι w a Q hS hF hG => wp_block (hok hO ι w a _ hS hF ?_)⟩
      intro ι' a' w' hx hl hS' hF'
      simp only [Exit.inBlock,this,if_true]
      exact hG ι' a' w' hx hl hS' hF'
     | false =>
      simp only [hid,cond_false,Option.some.injEq,Prod.mk.injEq] at h
      obtain ⟨rfl,rfl,rfl,_,rfl⟩:=h
      have:=Nat.ne_of_beq_eq_false hid
      refine ⟨hm,fun hO ι w a Q hS hF hG => wp_block (hok hO ι w a _ hS hF ?_)⟩
      intro ι' a' w' hx hl hS' hF'
      simp only [Exit.inBlock,if_neg this]
      exact hG ι' a' w' hx hl hS' hF'
    | _ =>
     simp only [hr,Option.some.injEq,Prod.mk.injEq] at h
     obtain ⟨rfl,rfl,rfl,_,rfl⟩:=h
     exact ⟨hm,fun hO ι w a Q hS hF hG => wp_block (hok hO ι w a _ hS hF hG)⟩
  | scope x =>
   simp only at h
   cases hr : rc f (0 :: p) x fr μ orc O with
   | none => simp [hr] at h
   | some q =>
    obtain ⟨e1,fr1,μ1,orc1,O1⟩:=q
    obtain ⟨hm,hok⟩:=hrc f (0 :: p) x (hh.child rfl) _ _ _ _ _ _ _ _ _ hr
    cases e1 with
    | goto l => simp [hr] at h
    | _ =>
     simp only [hr,Option.some.injEq,Prod.mk.injEq] at h
     obtain ⟨rfl,rfl,rfl,_,rfl⟩:=h
     exact ⟨hm,fun hO ι w a Q hS hF hG => wp_scope_straight (hok hO ι w a _ hS hF hG)⟩
  | loop x =>
   simp only at h
   obtain ⟨hm,hok⟩:=loopO_ok hrc (hh.child rfl) mostRounds h
   exact ⟨hm,fun hO ι w a Q hS hF hG => wp_loop_rounds mostRounds (hok hO hS hF hG)⟩
theorem codeO_ok (hmix : P.follows .mixedOrders = true) {s : Sm} (hs : SmOk P E pr w0 s) {run0 : CallF} (h0 : CallsOk P pr w0 E.ng run0) : ∀ n,CodeOkO P E pr w0 (codeO P E s run0 n)
 | 0 => by intro f p c hh fr μ orc O e fr' μ' orc' O' h;simp [codeO] at h
 | n + 1 => codeStepO_ok hE hmix hs h0 (codeO_ok hmix hs h0 n)
theorem runO_ok (hmix : P.follows .mixedOrders = true) {s : Sm} (hs : SmOk P E pr w0 s) {run0 : CallF} (h0 : CallsOk P pr w0 E.ng run0) (n : Nat) : CallOkO P pr w0 E.ng (runO P E s run0 n) :=
 callO_ok hE hs (codeO_ok hE hmix hs h0 n)
end
end Go.Abs
end
section
namespace Go.Abs
def upV (σ : Nat → Nat) : Value → Value
 | .pointer (some a) => .pointer (some { a with block:=σ a.block })
 | .slice (some a) l c => .slice (some { a with block:=σ a.block }) l c
 | .map (some r) => .map (some (σ r))
 | .func fn f c => .func fn (f.map fun x => upV σ x) (c.map fun x => upV σ x)
 | .iface t v => .iface t (upV σ v)
 | .agg cs => .agg (cs.map fun x => upV σ x)
 | .tuple cs => .tuple (cs.map fun x => upV σ x)
 | .chan (some l) => .chan (some (σ l))
 | v => v
def Ren.via (ι : Ren) (σ : Nat → Nat) : Ren:={ ι with loc:=fun n => ι.loc (σ n),ext:=fun n => ι.ext (σ n),opq:=fun n => ι.opq (σ n) }
theorem conc_up (ι : Ren) (σ : Nat → Nat) : ∀ (v : Value),conc ι (upV σ v) = conc (ι.via σ) v
 | .pointer (some a) => by simp [upV,Ren.addr,Ren.via]
 | .slice (some a) l c => by simp [upV,Ren.addr,Ren.via,Ren.cap]
 | .map (some r) => by simp [upV,Ren.via]
 | .func fn f c => by
  simp only [upV,conc_func,Array.map_map]
  rw [Array.map_congr_left (f:=conc ι ∘ fun x => upV σ x) (g:=conc (ι.via σ)) (xs:=f) fun x hx => conc_up ι σ x,Array.map_congr_left (f:=conc ι ∘ fun x => upV σ x) (g:=conc (ι.via σ)) (xs:=c) fun x hx => conc_up ι σ x]
 | .iface t v => by simp [upV,conc_up ι σ v]
 | .agg cs => by
  simp only [upV,conc_agg,Array.map_map]
  rw [Array.map_congr_left (f:=conc ι ∘ fun x => upV σ x) (g:=conc (ι.via σ)) (xs:=cs) fun x hx => conc_up ι σ x]
 | .tuple cs => by
  simp only [upV,conc_tuple,Array.map_map]
  rw [Array.map_congr_left (f:=conc ι ∘ fun x => upV σ x) (g:=conc (ι.via σ)) (xs:=cs) fun x hx => conc_up ι σ x]
 | .chan none => by simp [upV,conc]
 | .chan (some l) => by simp [upV,Ren.via,Ren.chan]
 | .bool _ | .int _ _ | .float _ _ | .complex _ _ _ | .string _ | .pointer none | .slice none _ _ | .map none | .nilFunc | .nilIface => by simp [upV]
theorem Bd_up {N M : Nat} {σ : Nat → Nat} (h : ∀ n,n < N → σ n < M) : ∀ (v : Value),Bd N v → Bd M (upV σ v)
 | .pointer (some a),hv => by simp [upV] at *;exact h _ hv
 | .slice (some a) l c,hv => by simp [upV] at *;exact h _ hv
 | .map (some r),hv => by simp [upV] at *;exact h _ hv
 | .func fn f c,hv => by
  simp only [upV,Bd_func] at *
  refine ⟨fun x hx => ?_,fun x hx => ?_⟩
  ·obtain ⟨y,hy,rfl⟩:=Array.mem_map.1 hx;exact Bd_up h y (hv.1 y hy)
  ·obtain ⟨y,hy,rfl⟩:=Array.mem_map.1 hx;exact Bd_up h y (hv.2 y hy)
 | .iface t v,hv => by simp [upV] at *;exact Bd_up h v hv
 | .agg cs,hv => by
  simp only [upV,Bd_agg] at *
  intro x hx
  obtain ⟨y,hy,rfl⟩:=Array.mem_map.1 hx;exact Bd_up h y (hv y hy)
 | .tuple cs,hv => by
  simp only [upV,Bd_tuple] at *
  intro x hx
  obtain ⟨y,hy,rfl⟩:=Array.mem_map.1 hx;exact Bd_up h y (hv y hy)
 | .chan none,hv => by simp at hv
 | .chan (some l),hv => by simp [upV] at *;exact h _ hv
 | .bool _,_ | .int _ _,_ | .float _ _,_ | .complex _ _ _,_ | .string _,_ | .pointer none,_ | .slice none _ _,_ | .map none,_ | .nilFunc,_ | .nilIface,_ => by simp [upV]
theorem notP_up {σ : Nat → Nat} {v : Value} (h : notP v = true) : notP (upV σ v) = true:=by
 match v,h with
 | .pointer (some a),h | .slice (some a) l c,h | .map (some r),h | .func fn f c,h | .iface t v,h | .agg cs,h | .tuple cs,h => simp [upV,notP]
 | .chan none,h => simp [notP] at h
 | .chan (some l),h => simp [upV,notP]
 | .bool _,_ | .int _ _,_ | .float _ _,_ | .complex _ _ _,_ | .string _,_ | .pointer none,_ | .slice none _ _,_ | .map none,_ | .nilFunc,_ | .nilIface,_ => simp [upV,notP]
theorem notP_down {σ : Nat → Nat} {v : Value} (h : notP (upV σ v) = true) : notP v = true:=by
 match v,h with
 | .pointer (some a),h | .slice (some a) l c,h | .map (some r),h | .func fn f c,h | .iface t v,h | .agg cs,h | .tuple cs,h => simp [notP]
 | .chan none,h => simp [upV,notP] at h
 | .chan (some l),h => simp [notP]
 | .bool _,_ | .int _ _,_ | .float _ _,_ | .complex _ _ _,_ | .string _,_ | .pointer none,_ | .slice none _ _,_ | .map none,_ | .nilFunc,_ | .nilIface,_ => simp [notP]
def Tr.map {α β : Type} (f : α → β) : Tr α → Tr β
 | .e => .e
 | .n v l r => .n (v.map f) (l.map f) (r.map f)
theorem Tr.map_get {α β : Type} (f : α → β) : ∀ (t : Tr α) (k : Nat),(t.map f).get k = (t.get k).map f
 | .e,k => rfl
 | .n v l r,k => by
  simp only [Tr.map,Tr.get,Tr.map_get f l,Tr.map_get f r]
  cases Nat.beq k 0 <;> cases Nat.beq (k % 2) 1 <;> rfl
def upE (σ : Nat → Nat) (e : MapEntry) : MapEntry:={ key:=upV σ e.key,val:=upV σ e.val,born:=e.born }
def upO (σ : Nat → Nat) : AObj → AObj
 | .cells vs es => .cells (vs.map (upV σ)) es
 | .map es clock => .map (es.map (upE σ)) clock
 | .sIter s pos => .sIter s pos
 | .mIter m since seen st => .mIter (m.map σ) since seen st
 | .loop L => .loop { L with t:=L.t.map (upV σ),d:=upV σ L.d,df:=σ L.df }
 | .dfd b => .dfd b
 | .rov vs => .rov vs
 | .ro ds => .ro ds
 | .mix ds es => .mix ds es
 | .rok ds off vs => .rok ds off (vs.map (upV σ))
 | .word len k => .word len (σ k)
 | .dead => .dead
theorem upO_live (σ : Nat → Nat) (o : AObj) : (upO σ o).live = o.live:=by cases o <;> rfl
def BdO (N : Nat) : AObj → Prop
 | .cells vs _ => ∀ v ∈ vs,Bd N v
 | .rok _ _ vs => ∀ v ∈ vs,Bd N v
 | .map es _ => ∀ e ∈ es,Bd N e.key∧Bd N e.val
 | .mIter m _ _ _ => ∀ r,m = some r → r < N
 | .word _ k => k < N
 | .loop L => L.df < N∧L.sz < limit∧∀ t,notP ((L.t.get t).getD L.d) = true → Bd N ((L.t.get t).getD L.d)
 | _ => True
theorem ObjOk.up {ι : Ren} {σ : Nat → Nat} {N M : Nat} {w : World} {n : Nat} {o : AObj} (h : ObjOk ι M w (σ n) (upO σ o)) (hb : BdO N o) : ObjOk (ι.via σ) N w n o:=by
 cases o with
 | cells vs es =>
  refine ⟨fun i v hv => ?_,fun i hi => ?_⟩
  ·have:=h.1 i (upV σ v) (by simp [upO,hv])
   exact ⟨by rw [← conc_up];exact this.1,hb v (List.mem_of_getElem? hv)⟩
  ·exact h.2 i (by simpa [upO,Ren.via] using hi)
 | map es clock =>
  obtain ⟨h0,h1,h2⟩:=h
  refine ⟨h0,?_,hb⟩
  rw [show (ι.via σ).loc n = ι.loc (σ n) from rfl,h1]
  congr 3
  rw [List.map_map]
  exact List.map_congr_left fun e he => by simp [concE,upE,conc_up]
 | sIter s pos => exact h
 | mix ds es => exact h
 | rok ds off vs =>
  intro i v hv
  have:=h i (upV σ v) (by simp [hv])
  exact ⟨by rw [← conc_up];exact this.1,hb v (List.mem_of_getElem? hv)⟩
 | mIter m since seen st =>
  obtain ⟨h0,h1,h2⟩:=h
  refine ⟨h0,?_,hb⟩
  rw [show (ι.via σ).loc n = ι.loc (σ n) from rfl,h1]
  cases m <;> rfl
 | loop L =>
  obtain ⟨h0,h1,h2,tmps,h3,h4,h5⟩:=h
  obtain ⟨b1,b2,b3⟩:=hb
  refine ⟨h0,b1,b2,tmps,h3,h4,fun t ht => ?_⟩
  have hg : ((L.t.map (upV σ)).get t).getD (upV σ L.d) = upV σ ((L.t.get t).getD L.d):=by rw [Tr.map_get];cases L.t.get t <;> rfl
  have:=h5 t (by simp only [hg];exact notP_up ht)
  simp only [hg] at this
  exact ⟨by rw [← conc_up];exact this.1,b3 t ht⟩
 | dfd b => exact h
 | word len k =>
  obtain ⟨base,c,h1,h2,h3⟩:=h
  exact ⟨base,c,h1,hb,h3⟩
 | rov vs => trivial
 | ro ds => trivial
 | dead => trivial
section
variable {pr : Prot} {w0 : World} {ι : Ren} {μ : Hp} {w : World}
structure Keeps (σ : Nat → Nat) (μ μc : Hp) : Prop where
 lt : ∀ n o,μc.get n = some o → n < μc.next
 obj : ∀ n o,μc.get n = some o → μ.get (σ n) = some (upO σ o)
 bd : ∀ n o,μc.get n = some o → BdO μc.next o
 inj : ∀ n m o o',μc.get n = some o → μc.get m = some o' → o.live = true → o'.live = true → n ≠ m → σ n ≠ σ m
 lim : μc.next ≤ limit
theorem Sim.keeps (h : Sim pr w0 0 ι μ w) {σ : Nat → Nat} {μc : Hp} (hk : Keeps σ μ μc) : Sim pr w0 0 (ι.via σ) μc w where
 os:=h.os
 tape:=h.tape
 output:=h.output
 size:=h.size
 prot:=h.prot
 lt:=hk.lt
 obj n o hg:=(h.obj _ _ (hk.obj n o hg)).up (hk.bd n o hg)
 blk n o hg hl:=h.blk _ _ (hk.obj n o hg) (by rw [upO_live];exact hl)
 free n o hg hl:=h.free _ _ (hk.obj n o hg) (by rw [upO_live];exact hl)
 inj n m o o' hg hg' hl hl' hne:=h.inj _ _ _ _ (hk.obj n o hg) (hk.obj m o' hg') (by rw [upO_live];exact hl) (by rw [upO_live];exact hl') (hk.inj n m o o' hg hg' hl hl' hne)
 lim:=hk.lim
 glob g hg:=by omega
 ro n o hg:=by
  have:=h.ro _ _ (hk.obj n o hg)
  cases o <;> exact this
 fro:=h.fro
 ffree n o hg hl:=h.ffree _ _ (hk.obj n o hg) (by rw [upO_live];exact hl)
 pfz:=h.pfz
structure KeepsF (σ : Nat → Nat) (N : Nat) (fr frc : Fr) : Prop where
 sz : frc.sz = fr.sz
 tmp : ∀ t,notP (frc.get t) = true → fr.get t = upV σ (frc.get t)∧Bd N (frc.get t)
 df : fr.df = []∧frc.df = []
theorem FrRel.keeps {N M : Nat} {fr : Fr} {a : Act} (h : FrRel ι N fr a) {σ : Nat → Nat} {frc : Fr} (hk : KeepsF σ M fr frc) : FrRel (ι.via σ) M frc a where
 size:=by rw [hk.sz];exact h.size
 lim:=by rw [hk.sz];exact h.lim
 tmp t ht:=by
  obtain ⟨h1,h2⟩:=hk.tmp t ht
  obtain ⟨h3,_⟩:=h.tmp t (by rw [h1];exact notP_up ht)
  exact ⟨by rw [h3,h1,conc_up],h2⟩
 df:=by rw [h.df,hk.df.1,hk.df.2];rfl
 bd d hd:=by rw [hk.df.2] at hd;simp at hd
theorem Ext.via {N : Nat} {σ : Nat → Nat} (h : ∀ n,n < N → σ n = n) : Ext N ι (ι.via σ) :=
 ⟨fun n hn => by simp [Ren.via,h n hn],fun n hn => by simp [Ren.via,h n hn],fun n hn => by simp [Ren.via,h n hn],fun _ h _ => ⟨h,rfl⟩⟩
end
end Go.Abs
end
section
namespace Go.Abs
def concX (ι : Ren) : Exit → Exit
 | .panic ch => .panic (ch.map (concP ι))
 | e => e
def BdX (N : Nat) : Exit → Prop
 | .panic ch => ∀ e ∈ ch,Bd N e.v
 | _ => True
abbrev Post:=Exit → Fr → Hp → Prop
def Reach (pr : Prot) (w0 : World) (ι : Ren) (N : Nat) (Φ : Post) : Exit → Act → World → Prop:=fun x a w =>
 ∃ e fr μ ι',Φ e fr μ∧Ext N ι ι'∧N ≤ μ.next∧Sim pr w0 0 ι' μ w∧FrRel ι' μ.next fr a∧x = concX ι' e∧BdX μ.next e
def Tri (P : Program) (pr : Prot) (w0 : World) (N : Nat) (c : Code) (fr : Fr) (μ : Hp) (Φ : Post) : Prop :=
 N ≤ μ.next → ∀ ι w a,Sim pr w0 0 ι μ w → FrRel ι μ.next fr a → c.wp P (Reach pr w0 ι N Φ) a w
section
variable {P : Program} {E : Env} {pr : Prot} {w0 : World}
theorem tri_of_goal {c : Code} {fr : Fr} {μ : Hp} {e : Exit} {fr' : Fr} {μ' : Hp} (h : ∀ ι w a (Q : Exit → Act → World → Prop),Sim pr w0 0 ι μ w → FrRel ι μ.next fr a → Goal pr w0 0 ι μ Q e fr' μ' → c.wp P Q a w) (N : Nat) :
  Tri P pr w0 N c fr μ fun e1 f1 m1 => e1 = e∧f1 = fr'∧m1 = μ':=by
 intro hN ι w a hS hF
 refine h ι w a _ hS hF ?_
 cases e with
 | panic ch => exact fun ι' a' w' hx hl hS' hF' hb => ⟨_,_,_,ι',⟨rfl,rfl,rfl⟩,hx.mono hN,Nat.le_trans hN hl,hS',hF',rfl,hb⟩
 | _ => exact fun ι' a' w' hx hl hS' hF' => ⟨_,_,_,ι',⟨rfl,rfl,rfl⟩,hx.mono hN,Nat.le_trans hN hl,hS',hF',rfl,trivial⟩
theorem tri_code (hE : EnvOk P E) (hng : E.ng = 0) (hmix : P.follows .mixedOrders = true) {s : Sm} (hs : SmOk P E pr w0 s) {run0 : CallF} (h0 : CallsOk P pr w0 E.ng run0) {n : Nat} {f : FuncId} {p : List Nat} {c : Code} (hh : Here E f p c)
  {fr : Fr} {μ : Hp} {orc : List Ans} {e : Exit} {fr' : Fr} {μ' : Hp} {orc' : List Ans} {O : Prop} (h : codeO P E s run0 n f p c fr μ orc True = some (e,fr',μ',orc',O)) (hO : O) (N : Nat) :
  Tri P pr w0 N c fr μ fun e1 f1 m1 => e1 = e∧f1 = fr'∧m1 = μ':=by
 have:=(codeO_ok hE hmix hs h0 n f p c hh _ _ _ _ _ _ _ _ _ h).2 hO
 rw [hng] at this
 exact tri_of_goal this N
def Forget (N : Nat) (Φ : Post) : Post:=fun e fr μ =>
 Φ e fr μ ∨ ∃ σ frc μc,(∀ n,n < N → σ n = n)∧N ≤ μc.next∧Keeps σ μ μc∧KeepsF σ μc.next fr frc∧(∀ ch,e ≠ .panic ch)∧Φ e frc μc
theorem Tri.weaken {N : Nat} {c : Code} {fr : Fr} {μ : Hp} {Φ Ψ : Post} (h : Tri P pr w0 N c fr μ Φ) (hk : ∀ e f m,Φ e f m → Forget N Ψ e f m) : Tri P pr w0 N c fr μ Ψ:=by
 intro hN ι w a hS hF
 refine Code.wp_mono ?_ (h hN ι w a hS hF)
 rintro x a' w' ⟨e,fr',μ',ι',hΦ,hx,hl,hS',hF',hxe,hb⟩
 rcases hk e fr' μ' hΦ with hΨ | ⟨σ,frc,μc,hσ,hNc,hkeep,hkf,hne,hΨ⟩
 ·exact ⟨e,fr',μ',ι',hΨ,hx,hl,hS',hF',hxe,hb⟩
 ·refine ⟨e,frc,μc,ι'.via σ,hΨ,⟨fun n hn => ?_,fun n hn => ?_,fun n hn => ?_,hx.fz⟩,hNc,hS'.keeps hkeep,hF'.keeps hkf,?_,?_⟩
  ·simp only [Ren.via,hσ n hn];exact hx.loc n hn
  ·simp only [Ren.via,hσ n hn];exact hx.ext n hn
  ·simp only [Ren.via,hσ n hn];exact hx.opq n hn
  ·cases e with
   | panic ch => exact absurd rfl (hne ch)
   | _ => exact hxe
  ·cases e with
   | panic ch => exact absurd rfl (hne ch)
   | _ => trivial
theorem Reach.trans {ι ι' : Ren} {N : Nat} {Φ : Post} {x : Exit} {a : Act} {w : World} (hx : Ext N ι ι') (h : Reach pr w0 ι' N Φ x a w) : Reach pr w0 ι N Φ x a w:=by
 obtain ⟨e,fr,μ,ι'',h1,h2,h3⟩:=h
 exact ⟨e,fr,μ,ι'',h1,hx.trans h2 (Nat.le_refl _),h3⟩
theorem rounds_mono {c : Code} {Q Q' : Exit → Act → World → Prop} (hq : ∀ e a w,Q e a w → Q' e a w) : ∀ (k : Nat) (a : Act) (w : World),Code.rounds P c Q k a w → Code.rounds P c Q' k a w:=by
 intro k
 induction k with
 | zero => intro a w h;exact h
 | succ k ih =>
  intro a w h
  refine Code.wp_mono ?_ h
  intro e a w h
  cases e with
  | normal => exact ih a w h
  | _ => exact hq _ _ _ h
theorem tri_loop {T : Type} (F : T → Fr) (H : T → Hp) (m : T → Nat) {N : Nat} {c : Code} {Φ : Post}
  (hb : ∀ s,Tri P pr w0 N c (F s) (H s) fun e f μ => (e = .normal∧∃ s',f = F s'∧μ = H s'∧m s' < m s) ∨ (e ≠ .normal∧Φ e f μ)) (s : T) :
  Tri P pr w0 N (.loop c) (F s) (H s) Φ:=by
 intro hN ι w a hS hF
 have key : ∀ (k : Nat) (s : T),m s < k → N ≤ (H s).next → ∀ ι w a,Sim pr w0 0 ι (H s) w → FrRel ι (H s).next (F s) a → Code.rounds P c (Reach pr w0 ι N Φ) k a w:=by
  intro k
  induction k with
  | zero => intro s hs;omega
  | succ k ih =>
   intro s hs hN ι w a hS hF
   have h1:=hb s hN ι w a hS hF
   refine Code.wp_mono ?_ h1
   rintro x a' w' ⟨e,fr',μ',ι',hΦ,hx,hl,hS',hF',hxe,hbx⟩
   subst hxe
   rcases hΦ with ⟨rfl,s',rfl,rfl,hlt⟩ | ⟨hne,hΦ⟩
   ·exact rounds_mono (fun e a w h => Reach.trans hx h) k a' w' (ih s' (by omega) hl ι' w' a' hS' hF')
   ·cases e with
    | normal => exact absurd rfl hne
    | _ => exact ⟨_,fr',μ',ι',hΦ,hx,hl,hS',hF',rfl,hbx⟩
 exact wp_loop_rounds (m s + 1) (key (m s + 1) s (by omega) hN ι w a hS hF)
end
end Go.Abs
end
section
namespace Go.Abs
theorem ObjOk.down {ι ι' : Ren} {τ : Nat → Nat} {N M : Nat} {w : World} {n : Nat} {o : AObj} (h : ObjOk ι N w n o) (hx : Ext N ι (ι'.via τ)) (hn : n < N) (hM : ∀ i,i < N → τ i < M) : ObjOk ι' M w (τ n) (upO τ o):=by
  have hloc : ι'.loc (τ n) = ι.loc n:=hx.loc n hn
  have hext : ι'.ext (τ n) = ι.ext n:=hx.ext n hn
  have hopq : ι'.opq (τ n) = ι.opq n:=hx.opq n hn
  have hc : ∀ v,Bd N v → conc ι' (upV τ v) = conc ι v:=fun v hv => by rw [conc_up];exact conc_ext hx v hv
  cases o with
  | cells vs es =>
    simp only [ObjOk,upO,hloc,hext,List.length_map] at h ⊢
    refine ⟨fun i v hv => ?_,h.2⟩
    rw [List.getElem?_map,Option.map_eq_some_iff] at hv
    obtain ⟨u,hu,rfl⟩:=hv
    obtain ⟨h1,h2⟩:=h.1 i u hu
    exact ⟨by rw [hc u h2];exact h1,Bd_up hM u h2⟩
  | map es clock =>
    simp only [ObjOk,upO,hloc] at h ⊢
    obtain ⟨h0,h1,h2⟩:=h
    refine ⟨h0,?_,?_⟩
    · rw [h1]
      congr 3
      rw [List.map_map]
      exact List.map_congr_left fun e he => by simp [concE,upE,hc _ (h2 e he).1,hc _ (h2 e he).2]
    · intro e he
      obtain ⟨e0,he0,rfl⟩:=List.mem_map.1 he
      exact ⟨Bd_up hM _ (h2 e0 he0).1,Bd_up hM _ (h2 e0 he0).2⟩
  | sIter s pos => simp only [ObjOk,upO,hloc] at h ⊢;exact h
  | mIter m since seen st =>
    simp only [ObjOk,upO,hloc] at h ⊢
    obtain ⟨h0,h1,h2⟩:=h
    refine ⟨h0,?_,?_⟩
    · rw [h1]
      cases m with
      | none => rfl
      | some r => simp [show ι'.loc (τ r) = ι.loc r from hx.loc r (h2 r rfl)]
    · intro r hr
      cases m with
      | none => simp at hr
      | some r0 => simp at hr;subst hr;exact hM _ (h2 r0 rfl)
  | loop L =>
    simp only [ObjOk,upO,hloc,hopq] at h ⊢
    obtain ⟨h0,h1,h2,tmps,h3,h4,h5⟩:=h
    refine ⟨h0,hM _ h1,h2,tmps,?_,h4,fun t ht => ?_⟩
    · rw [h3,show ι'.loc (τ L.df) = ι.loc L.df from hx.loc _ h1]
    · have hg : ((L.t.map (upV τ)).get t).getD (upV τ L.d) = upV τ ((L.t.get t).getD L.d):=by rw [Tr.map_get];cases L.t.get t <;> rfl
      rw [hg] at ht ⊢
      obtain ⟨g1,g2⟩:=h5 t (notP_down ht)
      exact ⟨by rw [hc _ g2];exact g1,Bd_up hM _ g2⟩
  | dfd b => simp only [ObjOk,upO,hloc] at h ⊢;exact h
  | rov vs => trivial
  | ro ds => trivial
  | mix ds es =>
    simp only [ObjOk,upO,hloc,hext] at h ⊢
    obtain ⟨⟨us,h1,h2,h3⟩,h4⟩:=h
    exact ⟨⟨us,h1,h2,fun i d u hd hu => DeepOk.mono (fun b hb hp => by obtain ⟨h1,h2⟩:=hx.fz b hp hb;exact ⟨heap_lt hb h2,h1,h2⟩) d u (h3 i d u hd hu)⟩,h4⟩
  | rok ds off vs =>
    simp only [ObjOk,upO,hloc] at h ⊢
    intro i v hv
    rw [List.getElem?_map,Option.map_eq_some_iff] at hv
    obtain ⟨u,hu,rfl⟩:=hv
    obtain ⟨⟨h1,h2,h3⟩,h4⟩:=h i u hu
    obtain ⟨g1,g2⟩:=hx.fz _ h1 h2
    exact ⟨⟨g1,heap_lt h2 g2,by rw [World.cell?_of_block (w:=ι.wb) g2,hc u h4];exact h3⟩,Bd_up hM u h4⟩
  | word len k =>
    simp only [ObjOk,upO,hopq] at h ⊢
    obtain ⟨base,c,h1,h2,h3⟩:=h
    exact ⟨base,c,h1,hM _ h2,by rw [show ι'.loc (τ k) = ι.loc k from hx.loc k h2];exact h3⟩
  | dead => trivial
def upEnd (τ : Nat → Nat) : Ending → Ending
  | .returned v => .returned (upV τ v)
  | .panicked ch => .panicked (ch.map fun e => { e with v:=upV τ e.v })
  | .outgrown => .outgrown
def LocalOk (P : Program) (f : FuncId) (args : List Value) (μL : Hp) (e : Ending) (μL' : Hp) : Prop :=
  ∀ pr w0 ι w,Sim pr w0 0 ι μL w → Calls P f (args.map (conc ι)).toArray w fun e' w' => ∃ ι',Ext μL.next ι ι'∧μL.next ≤ μL'.next∧Sim pr w0 0 ι' μL' w'∧EndRel ι' μL'.next e e'
structure Lifts (μ : Hp) (τ : Nat → Nat) (μL μL' μ' : Hp) : Prop where
  keep : Keeps τ μ μL
  low : ∀ i,i < μL.next → τ i < μ.next
  high : ∀ i,μL.next ≤ i → τ i = μ.next + (i - μL.next)
  next : μ'.next = μ.next + (μL'.next - μL.next)
  lim : μ'.next ≤ limit
  got : ∀ n o',μ'.get n = some o' → (∃ i o,i < μL'.next∧n = τ i∧μL'.get i = some o∧o' = upO τ o) ∨
    (n < μ.next∧μ.get n = some o'∧∀ i o,μL.get i = some o → o.live = true → n ≠ τ i)
theorem EndRel.up {ι ι' : Ren} {τ : Nat → Nat} {N M : Nat} {e e' : Ending} (h : EndRel ι N e e') (hx : Ext N ι (ι'.via τ)) (hM : ∀ i,i < N → τ i < M) : EndRel ι' M (upEnd τ e) e':=by
  have hc : ∀ v,Bd N v → conc ι' (upV τ v) = conc ι v:=fun v hv => by rw [conc_up];exact conc_ext hx v hv
  cases e with
  | returned v =>
    cases e' with
    | returned v' => obtain ⟨rfl,hb⟩:=h;exact ⟨(hc v hb).symm,Bd_up hM v hb⟩
    | _ => exact h
  | panicked ch =>
    cases e' with
    | panicked ch' =>
      obtain ⟨rfl,hb⟩:=h
      refine ⟨?_,?_⟩
      · rw [List.map_map]
        exact List.map_congr_left fun x hx' => by simp [concP,hc _ (hb x hx')]
      · intro x hx'
        obtain ⟨y,hy,rfl⟩:=List.mem_map.1 hx'
        exact Bd_up hM _ (hb y hy)
    | _ => exact h
  | outgrown => cases e' <;> exact h
end Go.Abs
end
section
namespace Go.Abs
def mkT {α : Type} : List (Nat × α) → Tr α
 | [] => .e
 | (t,v) :: r => Tr.set 40 (mkT r) t v
def mkFr (sz : Nat) (ts : List (Nat × Value)) : Fr:={ t:=mkT ts,sz,df:=[],d:=poison }
def mkHp (next : Nat) (os : List (Nat × AObj)) : Hp:={ objs:=mkT os,next }
def look {α : Type} : List (Nat × α) → Nat → Option α
 | [],_ => none
 | (t,v) :: r,n => if n = t then some v else look r n
theorem mkT_get {α : Type} : ∀ (l : List (Nat × α)) (n : Nat),(∀ p ∈ l,p.1 < limit) → (mkT l).get n = look l n
 | [],n,h => rfl
 | (t,v) :: r,n,h => by
  simp only [mkT,look]
  by_cases hn : n = t
  ·subst hn
   rw [if_pos rfl,Tr.get_set_same 40 _ _ _ (by have:=h (n,v) (by simp);unfold limit at this;simp at this;omega)]
  ·rw [if_neg hn,Tr.get_set_other 40 _ _ _ _ (Ne.symm hn)]
   exact mkT_get r n fun p hp => h p (by simp [hp])
theorem look_mem {α : Type} : ∀ (l : List (Nat × α)) (n : Nat) (v : α),look l n = some v → (n,v) ∈ l
 | [],n,v,h => by simp [look] at h
 | (t,u) :: r,n,v,h => by
  simp only [look] at h
  split at h
  ·rename_i e;simp at h;subst e;subst h;simp
  ·exact List.mem_cons_of_mem _ (look_mem r n v h)
def smallN {α : Type} (l : List (Nat × α)) : Bool:=l.all fun p => Nat.blt p.1 limit
theorem smallN_spec {α : Type} {l : List (Nat × α)} (h : smallN l = true) : ∀ p ∈ l,p.1 < limit:=fun p hp => by
 have:=List.all_eq_true.1 h p hp
 simpa [Nat.blt_eq] using this
theorem i64_small {n : Int} (h0 : 0 ≤ n) (h : n ≤ 9223372036854775807) : IntKind.i64.wrap n = n:=by
 have h1 : (2 : Int) ^ IntKind.i64.bits = 18446744073709551616:=by decide
 have h2 : (2 : Int) ^ (IntKind.i64.bits - 1) = 9223372036854775808:=by decide
 unfold IntKind.wrap
 rw [h1,h2]
 have h3 : n % 18446744073709551616 = n:=Int.emod_eq_of_lt h0 (by omega)
 simp only [h3]
 have hs : IntKind.i64.signed = true:=rfl
 simp only [hs,Bool.true_and]
 rw [if_neg (by simp;omega)]
def chkF : List (Nat × Value) → Fr → Prop
 | [],_ => True
 | (t,v) :: r,fr => fr.get t = v∧chkF r fr
def selfF : List (Nat × Value) → Prop
 | [] => True
 | (_,v) :: r => v = v∧selfF r
theorem selfF_true : ∀ l,selfF l
 | [] => trivial
 | (_,v) :: r => ⟨rfl,selfF_true r⟩
def chkH : List (Nat × AObj) → Hp → Prop
 | [],_ => True
 | (n,o) :: r,μ => μ.get n = some o∧chkH r μ
def selfH : List (Nat × AObj) → Prop
 | [] => True
 | (_,o) :: r => some o = some o∧selfH r
theorem selfH_true : ∀ l,selfH l
 | [] => trivial
 | (_,o) :: r => ⟨rfl,selfH_true r⟩
theorem chkF_mem : ∀ {l : List (Nat × Value)} {fr : Fr},chkF l fr → ∀ p ∈ l,fr.get p.1 = p.2
 | [],_,_,p,hp => by simp at hp
 | (t,v) :: r,fr,h,p,hp => by
  rcases List.mem_cons.1 hp with rfl | hp
  ·exact h.1
  ·exact chkF_mem h.2 p hp
theorem chkH_mem : ∀ {l : List (Nat × AObj)} {μ : Hp},chkH l μ → ∀ p ∈ l,μ.get p.1 = some p.2
 | [],_,_,p,hp => by simp at hp
 | (t,v) :: r,μ,h,p,hp => by
  rcases List.mem_cons.1 hp with rfl | hp
  ·exact h.1
  ·exact chkH_mem h.2 p hp
def Came (r : Option OR') (e : Exit) (sz : Nat) (ts : List (Nat × Value)) (os : List (Nat × AObj)) (next : Nat) : Prop :=
 match r with
 | some (e',fr,μ,_,O) => O∧e' = e∧fr.sz = sz∧fr.df = []∧chkF ts fr∧chkH os μ∧μ.next = next
 | none => False
def Said (O : Prop) (e : Exit) (sz : Nat) (ts : List (Nat × Value)) (os : List (Nat × AObj)) (next : Nat) : Prop :=
 O∧e = e∧sz = sz∧([] : List Deferred) = []∧selfF ts∧selfH os∧next = next
theorem came_of {r : Option OR'} {e : Exit} {sz : Nat} {ts : List (Nat × Value)} {os : List (Nat × AObj)} {next : Nat} {O : Prop} (h : Came r e sz ts os next = Said O e sz ts os next) (hO : O) : Came r e sz ts os next:=by
 rw [h];exact ⟨hO,rfl,rfl,rfl,selfF_true ts,selfH_true os,rfl⟩
def CameC (r : Option (Ending × Hp × List Ans × Prop)) (e : Ending) (os : List (Nat × AObj)) (next : Nat) : Prop :=
 match r with
 | some (e',μ,_,O) => O∧e' = e∧chkH os μ∧μ.next = next
 | none => False
def SaidC (O : Prop) (e : Ending) (os : List (Nat × AObj)) (next : Nat) : Prop:=O∧e = e∧selfH os∧next = next
theorem cameC_of {r : Option (Ending × Hp × List Ans × Prop)} {e : Ending} {os : List (Nat × AObj)} {next : Nat} {O : Prop} (h : CameC r e os next = SaidC O e os next) (hO : O) : CameC r e os next:=by
 rw [h];exact ⟨hO,rfl,selfH_true os,rfl⟩
theorem upV_id : ∀ (v : Value),upV (fun n => n) v = v
 | .pointer (some a) => by simp [upV]
 | .slice (some a) l c => by simp [upV]
 | .map (some r) => by simp [upV]
 | .func fn f c => by
  simp only [upV]
  rw [Array.map_congr_left (f:=fun x => upV (fun n => n) x) (g:=id) (xs:=f) fun x hx => upV_id x,Array.map_congr_left (f:=fun x => upV (fun n => n) x) (g:=id) (xs:=c) fun x hx => upV_id x]
  simp
 | .iface t v => by simp [upV,upV_id v]
 | .agg cs => by
  simp only [upV]
  rw [Array.map_congr_left (f:=fun x => upV (fun n => n) x) (g:=id) (xs:=cs) fun x hx => upV_id x]
  simp
 | .tuple cs => by
  simp only [upV]
  rw [Array.map_congr_left (f:=fun x => upV (fun n => n) x) (g:=id) (xs:=cs) fun x hx => upV_id x]
  simp
 | .chan none => by simp [upV]
 | .chan (some l) => by simp [upV]
 | .bool _ | .int _ _ | .float _ _ | .complex _ _ _ | .string _ | .pointer none | .slice none _ _ | .map none | .nilFunc | .nilIface => by simp [upV]
theorem upO_id (o : AObj) : upO (fun n => n) o = o:=by
 cases o with
 | cells vs es => simp [upO,show upV (fun n => n) = id from funext upV_id]
 | rok ds off vs => simp [upO,show upV (fun n => n) = id from funext upV_id]
 | map es clock => simp only [upO];rw [show upE (fun n => n) = id from funext fun e => by simp [upE,upV_id]];simp
 | mIter m since seen st => cases m <;> rfl
 | loop L =>
  have : ∀ t : Tr Value,t.map (fun v => v) = t:=by
   intro t
   induction t with
   | e => rfl
   | n v l r ih1 ih2 => simp only [Tr.map,ih1,ih2];cases v <;> rfl
  simp only [upO]
  rw [show upV (fun n => n) = fun v => v from funext upV_id,this]
 | _ => rfl
theorem keepsF_id {fr : Fr} {sz : Nat} {ts : List (Nat × Value)} {N : Nat} (hs : smallN ts = true) (h1 : fr.sz = sz) (h2 : fr.df = []) (h3 : chkF ts fr) (hb : ∀ p ∈ ts,Bd N p.2) : KeepsF (fun n => n) N fr (mkFr sz ts) where
 sz:=h1.symm
 df:=⟨h2,rfl⟩
 tmp t ht:=by
  unfold Fr.get mkFr at ht ⊢
  simp only [mkT_get ts t (smallN_spec hs)] at ht ⊢
  cases hl : look ts t with
  | none => rw [hl] at ht;simp [poison,notP] at ht
  | some v =>
   have hm:=look_mem ts t v hl
   simp only [Option.getD_some,upV_id]
   exact ⟨chkF_mem h3 _ hm,hb _ hm⟩
theorem keeps_id {μ : Hp} {os : List (Nat × AObj)} {N : Nat} (hs : smallN os = true) (h : chkH os μ) (hb : ∀ p ∈ os,p.1 < N∧BdO N p.2) (hN : N ≤ limit) : Keeps (fun n => n) μ (mkHp N os):=by
 have hget : ∀ n o,(mkHp N os).get n = some o → (n,o) ∈ os:=by
  intro n o hg
  simp only [Hp.get,mkHp,mkT_get os n (smallN_spec hs)] at hg
  exact look_mem os n o hg
 refine ⟨fun n o hg => (hb _ (hget n o hg)).1,fun n o hg => ?_,fun n o hg => (hb _ (hget n o hg)).2,fun n m o o' _ _ _ _ hne => hne,hN⟩
 rw [upO_id]
 exact chkH_mem h _ (hget n o hg)
section
variable {P : Program} {E : Env} {pr : Prot} {w0 : World}
theorem tri_came (hE : EnvOk P E) (hng : E.ng = 0) (hmix : P.follows .mixedOrders = true) {s : Sm} (hs : SmOk P E pr w0 s) {run0 : CallF} (h0 : CallsOk P pr w0 E.ng run0) {n : Nat} {f : FuncId} {p : List Nat} {c : Code} (hh : Here E f p c)
  {fr : Fr} {μ : Hp} {orc : List Ans} {e : Exit} {sz : Nat} {ts : List (Nat × Value)} {os : List (Nat × AObj)} {next : Nat} (h : Came (codeO P E s run0 n f p c fr μ orc True) e sz ts os next)
  (hne : ∀ ch,e ≠ .panic ch) (hst : smallN ts = true) (hso : smallN os = true) (hbt : ∀ p ∈ ts,Bd next p.2) (hbo : ∀ p ∈ os,p.1 < next∧BdO next p.2) (hlim : next ≤ limit) {N : Nat} (hN : N ≤ next) :
  Tri P pr w0 N c fr μ fun e1 f1 m1 => e1 = e∧f1 = mkFr sz ts∧m1 = mkHp next os:=by
 unfold Came at h
 split at h
 ·rename_i e' fr' μ' orc' O hc
  obtain ⟨hO,rfl,h1,h2,h3,h4,h5⟩:=h
  refine (tri_code hE hng hmix hs h0 hh hc hO N).weaken ?_
  rintro e1 f1 m1 ⟨rfl,rfl,rfl⟩
  exact .inr ⟨fun n => n,mkFr sz ts,mkHp next os,fun _ _ => rfl,hN,keeps_id hso h4 hbo hlim,keepsF_id hst h1 h2 h3 hbt,hne,rfl,rfl,rfl⟩
 ·exact h.elim
def PreP (sz : Nat) (ts : List (Nat × Value)) (os : List (Nat × AObj)) (next : Nat) (fr : Fr) (μ : Hp) : Prop:=fr.sz = sz∧fr.df = []∧chkF ts fr∧chkH os μ∧μ.next = next
def SelfP (sz : Nat) (ts : List (Nat × Value)) (os : List (Nat × AObj)) (next : Nat) : Prop:=sz = sz∧([] : List Deferred) = []∧selfF ts∧selfH os∧next = next
theorem selfP_true (sz : Nat) (ts : List (Nat × Value)) (os : List (Nat × AObj)) (next : Nat) : SelfP sz ts os next:=⟨rfl,rfl,selfF_true ts,selfH_true os,rfl⟩
def piece (sz : Nat) (ts : List (Nat × Value)) (os : List (Nat × AObj)) (next : Nat) (e1 : Exit) (fr1 : Fr) (μ1 : Hp) : PieceO:=fun fr μ => some (e1,fr1,μ1,PreP sz ts os next fr μ)
theorem piece_ok {c : Code} {sz : Nat} {ts : List (Nat × Value)} {os : List (Nat × AObj)} {next : Nat} {e1 : Exit} {fr1 : Fr} {μ1 : Hp} (hne : ∀ ch,e1 ≠ .panic ch)
  (hst : smallN ts = true) (hso : smallN os = true) (hbt : ∀ p ∈ ts,Bd next p.2) (hbo : ∀ p ∈ os,p.1 < next∧BdO next p.2) (hlim : next ≤ limit)
  (h : Tri P pr w0 next c (mkFr sz ts) (mkHp next os) fun e f m => e = e1∧f = fr1∧m = μ1) : PieceOk P pr w0 0 c (piece sz ts os next e1 fr1 μ1):=by
 intro fr μ e fr' μ' p hp hpre ι w a Q hS hF hG
 simp only [piece,Option.some.injEq,Prod.mk.injEq] at hp
 obtain ⟨rfl,rfl,rfl,rfl⟩:=hp
 obtain ⟨h1,h2,h3,h4,h5⟩:=hpre
 have hk:=keeps_id hso h4 hbo hlim
 have hf:=keepsF_id hst h1 h2 h3 hbt
 refine Code.wp_mono ?_ (h (Nat.le_refl _) _ w a (hS.keeps hk) (hF.keeps hf))
 rintro x a' w' ⟨e',f',m',ι',⟨rfl,rfl,rfl⟩,hx,hl,hS',hF',hxe,hb⟩
 have hx' : Ext μ.next ι ι':=by
  rw [h5]
  exact ⟨fun n hn => by rw [hx.loc n hn];rfl,fun n hn => by rw [hx.ext n hn];rfl,fun n hn => by rw [hx.opq n hn];rfl,hx.fz⟩
 cases e' with
 | panic ch => exact absurd rfl (hne ch)
 | _ => rw [hxe];exact hG ι' a' w' hx' (by rw [h5];exact hl) hS' hF'
theorem tri_block {N : Nat} {id : Nat} {c : Code} {fr : Fr} {μ : Hp} {Φ Ψ : Post} (h : Tri P pr w0 N c fr μ Φ)
  (h1 : ∀ f m,Φ (.exit id) f m → Ψ .normal f m) (h2 : ∀ e f m,e ≠ .exit id → Φ e f m → Ψ e f m) : Tri P pr w0 N (.block id c) fr μ Ψ:=by
 intro hN ι w a hS hF
 refine wp_block (Code.wp_mono ?_ (h hN ι w a hS hF))
 rintro x a' w' ⟨e,f,m,ι',hΦ,hx,hl,hS',hF',hxe,hb⟩
 subst hxe
 cases e with
 | exit id' =>
  simp only [concX,Exit.inBlock]
  split
  ·rename_i hid
   subst hid
   exact ⟨.normal,f,m,ι',h1 f m hΦ,hx,hl,hS',hF',rfl,trivial⟩
  ·rename_i hid
   exact ⟨.exit id',f,m,ι',h2 _ f m (by simpa using hid) hΦ,hx,hl,hS',hF',rfl,trivial⟩
 | normal => exact ⟨.normal,f,m,ι',h2 _ f m (by simp) hΦ,hx,hl,hS',hF',rfl,trivial⟩
 | panic ch => exact ⟨.panic ch,f,m,ι',h2 _ f m (by simp) hΦ,hx,hl,hS',hF',rfl,hb⟩
 | ret => exact ⟨.ret,f,m,ι',h2 _ f m (by simp) hΦ,hx,hl,hS',hF',rfl,trivial⟩
 | goto l => exact ⟨.goto l,f,m,ι',h2 _ f m (by simp) hΦ,hx,hl,hS',hF',rfl,trivial⟩
 | outgrown => exact ⟨.outgrown,f,m,ι',h2 _ f m (by simp) hΦ,hx,hl,hS',hF',rfl,trivial⟩
theorem Tri.to {N : Nat} {c : Code} {fr : Fr} {μ : Hp} {Φ Ψ : Post} (h : Tri P pr w0 N c fr μ Φ) (hk : ∀ e f m,Φ e f m → Ψ e f m) : Tri P pr w0 N c fr μ Ψ:=h.weaken fun e f m hp => .inl (hk e f m hp)
theorem local_came {f : FuncId} {args : List Value} {μL : Hp} {e : Ending} {os : List (Nat × AObj)} {next : Nat} (hE : EnvOk P E) (hng : E.ng = 0) (hmix : P.follows .mixedOrders = true) {s : Sm} (hs : ∀ pr w0,SmOk P E pr w0 s) {run0 : CallF} (h0 : ∀ pr w0,CallsOk P pr w0 E.ng run0) {n : Nat} {orc : List Ans}
  (h : CameC (runO P E s run0 n f args μL orc True) e os next) (hb : ∀ x ∈ args,Bd μL.next x) (hso : smallN os = true) (hbo : ∀ p ∈ os,p.1 < next∧BdO next p.2) (hlim : next ≤ limit) (hN : μL.next ≤ next) (he : ∀ v,e = .returned v → Bd next v) (hp : ∃ v,e = .returned v) : LocalOk P f args μL e (mkHp next os):=by
 intro pr w0 ι w hS
 unfold CameC at h
 split at h
 ·rename_i e' μ' orc' O hc
  obtain ⟨hO,rfl,h4,h5⟩:=h
  have:=(runO_ok hE hmix (hs pr w0) (h0 pr w0) n f args μL orc True e' μ' orc' O hc).2 hO ι w
  rw [hng] at this
  refine (this hS hb).mono ?_
  rintro e1 w' ⟨ι',hx,hl,hS',hend⟩
  have hk:=keeps_id hso h4 hbo hlim
  refine ⟨ι'.via (fun n => n),⟨fun n hn => hx.loc n hn,fun n hn => hx.ext n hn,fun n hn => hx.opq n hn,hx.fz⟩,hN,hS'.keeps hk,?_⟩
  obtain ⟨v,rfl⟩:=hp
  cases e1 with
  | returned v' =>
   obtain ⟨rfl,_⟩:=hend
   exact ⟨rfl,he v rfl⟩
  | _ => exact hend.elim
 ·exact h.elim
theorem Sim.stays {ng : Nat} {ι : Ren} {μ : Hp} {w w' : World} (h : Sim pr w0 ng ι μ w) (hb : RowKit.Below w.heap.size w w') : Sim pr w0 ng ι μ w' where
 os:=hb.os.trans h.os
 tape:=hb.tape.trans h.tape
 output:=hb.output.trans h.output
 size:=Nat.le_trans h.size hb.size
 prot k hk hp:=(hb.block k (Nat.lt_of_lt_of_le hk h.size)).trans (h.prot k hk hp)
 lt:=h.lt
 obj n o hg:=(h.obj n o hg).mono (Ext.refl _ _) (Nat.le_refl _) (h.lt n o hg) (fun hl => hb.block _ (h.blk n o hg hl))
 blk n o hg hl:=Nat.lt_of_lt_of_le (h.blk n o hg hl) hb.size
 free:=h.free
 inj:=h.inj
 lim:=h.lim
 glob:=h.glob
 ro:=h.ro
 fro b hf:=⟨(h.fro b hf).1,(hb.block b (h.frozen_lt hf)).trans (h.fro b hf).2⟩
 ffree:=h.ffree
 pfz:=h.pfz
theorem calls_stays {ng : Nat} {f : FuncId} {args : List Value} {v : Value} {ι : Ren} {μ : Hp} {w : World} (h : Sim pr w0 ng ι μ w) (hv : Pure v)
  (hc : Calls P f (args.map (conc ι)).toArray w fun e w' => e = .returned v∧RowKit.Below w.heap.size w w') :
  Calls P f (args.map (conc ι)).toArray w fun e' w' => ∃ ι',Ext μ.next ι ι'∧μ.next ≤ μ.next∧Sim pr w0 ng ι' μ w'∧EndRel ι' μ.next (.returned v) e':=by
 refine hc.mono ?_
 rintro e w' ⟨rfl,hb⟩
 exact ⟨ι,Ext.refl _ _,Nat.le_refl _,h.stays hb,(hv ι).1.symm,Bd.mono (Nat.zero_le _) _ (hv ι).2⟩
theorem noRun_ok {ng : Nat} : CallsOk P pr w0 ng (fun _ _ _ => none):=fun f args μ e μ' h => by cases h
end
end Go.Abs
end
section
namespace Go.Abs
def FitD (P : Program) (R : Nat) : Nat → TypeId → List Deep → Prop
 | 0,_,_ => False
 | n + 1,t,ds => match P.underlying t with
  | some .bool => ∃ b,ds = [.val (.bool b)]
  | some (.int k) => ∃ i,ds = [.val (.int k i)]∧(Lit.int k i).wf = true
  | some (.float k) => ∃ i,ds = [.val (.float k i)]∧(Lit.float k i).wf = true
  | some .string => ∃ s : ByteArray,ds = [.val (.string s)]∧s.size ≤ maxLen∧s.size ≤ R
  | some (.struct fs) => ds.length = P.cellsOf t∧∀ (i : Nat) (f : Field),fs[i]? = some f → FitD P R n f.type ((ds.drop f.offset).take (P.cellsOf f.type))
  | some (.slice e) => ds = [.val (.slice none 0 0)] ∨ (∃ sp,ds = [.void sp]) ∨
    ∃ es len cap,ds = [.row es len cap]∧len ≤ cap∧0 < cap∧cap ≤ maxLen∧cap * P.bytesOf e ≤ R∧es.length = cap * P.cellsOf e∧∀ i,i < cap → FitD P R n e ((es.drop (i * P.cellsOf e)).take (P.cellsOf e))
  | _ => False
def tiles (P : Program) : List Field → Nat → Nat → Bool
 | [],o,n => Nat.beq o n
 | f :: r,o,n => Nat.beq f.offset o && tiles P r (o + P.cellsOf f.type) n
def okType (P : Program) (T : List TypeId) (t : TypeId) : Bool :=
 match P.underlying t with
 | some .bool | some (.int _) | some (.float _) | some .string => true
 | some (.struct fs) => tiles P fs.toList 0 (P.cellsOf t) && fs.toList.all fun f => T.contains f.type
 | some (.slice e) => Nat.blt 0 (P.cellsOf e) && T.contains e
 | _ => false
def okTypes (P : Program) (T : List TypeId) : Bool:=T.all (okType P T)
section
variable {H : Type} {enc : TypeId × Value → H} {P : Program} {w : World}
def Hold (w : World) (ds : List Deep) (cs : List Value) : Prop:=ds.length = cs.length∧∀ (i : Nat) (d : Deep) (v : Value),ds[i]? = some d → cs[i]? = some v → DeepOk (fun _ => True) w d v
theorem Hold.one {d : Deep} {v : Value} (h : DeepOk (fun _ => True) w d v) : Hold w [d] [v]:=by
 refine ⟨rfl,fun i d' v' hd hv => ?_⟩
 cases i with
 | zero => simp at hd hv;subst hd;subst hv;exact h
 | succ i => simp at hd
theorem Hold.append {ds es : List Deep} {cs vs : List Value} (h1 : Hold w ds cs) (h2 : Hold w es vs) : Hold w (ds ++ es) (cs ++ vs):=by
 refine ⟨by simp [h1.1,h2.1],fun i d v hd hv => ?_⟩
 by_cases hi : i < ds.length
 ·rw [List.getElem?_append_left hi] at hd
  rw [List.getElem?_append_left (by rw [← h1.1];exact hi)] at hv
  exact h1.2 i d v hd hv
 ·rw [List.getElem?_append_right (by omega)] at hd
  rw [List.getElem?_append_right (by rw [← h1.1];omega)] at hv
  rw [← h1.1] at hv
  exact h2.2 _ d v hd hv
theorem tile_hold {R : Nat} {n : Nat} {cs : List Value} : ∀ (fs : List Field) (o N : Nat),tiles P fs o N = true → cs.length = N →
  (∀ f ∈ fs,∃ ds,Hold w ds ((cs.drop f.offset).take (P.cellsOf f.type))∧FitD P R n f.type ds) →
  ∃ ds,Hold w ds (cs.drop o)∧∀ f ∈ fs,o ≤ f.offset∧FitD P R n f.type ((ds.drop (f.offset - o)).take (P.cellsOf f.type))
 | [],o,N,ht,hl,hf => by
  have:=beq_yes ht
  refine ⟨[],⟨by simp;omega,by simp⟩,by simp⟩
 | f :: r,o,N,ht,hl,hf => by
  simp only [tiles,Bool.and_eq_true] at ht
  have ho:=beq_yes ht.1
  obtain ⟨d1,h1,g1⟩:=hf f (by simp)
  obtain ⟨d2,h2,g2⟩:=tile_hold r (o + P.cellsOf f.type) N ht.2 hl fun f' hf' => hf f' (by simp [hf'])
  rw [ho] at h1
  have hle : ∀ (l : List Field) (o : Nat),tiles P l o N = true → o ≤ N:=by
   intro l
   induction l with
   | nil => intro o h;exact Nat.le_of_eq (beq_yes h)
   | cons a l ih => intro o h;simp only [tiles,Bool.and_eq_true] at h;have:=ih _ h.2;omega
  have hsz:=hle r _ ht.2
  have hlen1 : d1.length = P.cellsOf f.type:=by rw [h1.1,List.length_take,List.length_drop];omega
  refine ⟨d1 ++ d2,?_,?_⟩
  ·have:=h1.append h2
   rw [← List.drop_drop,List.take_append_drop] at this
   exact this
  ·intro f' hf'
   rcases List.mem_cons.1 hf' with rfl | hf'
   ·refine ⟨by omega,?_⟩
    rw [ho,Nat.sub_self,List.drop_zero,List.take_append_of_le_length (by omega),List.take_of_length_le (by omega)]
    exact g1
   ·obtain ⟨g3,g4⟩:=g2 f' hf'
    refine ⟨by omega,?_⟩
    rw [show f'.offset - o = d1.length + (f'.offset - (o + P.cellsOf f.type)) by omega,← List.drop_drop,List.drop_left]
    exact g4
theorem blocks {α : Type} (c : Nat) (D : Nat → List α) : ∀ (k : Nat),(∀ i,i < k → (D i).length = c) → ∃ es : List α,es.length = k * c∧∀ i,i < k → (es.drop (i * c)).take c = D i
 | 0,h => ⟨[],by simp,by simp⟩
 | k + 1,h => by
  obtain ⟨es,h1,h2⟩:=blocks c D k fun i hi => h i (by omega)
  have hk:=h k (by omega)
  refine ⟨es ++ D k,by rw [List.length_append,h1,hk,Nat.succ_mul],fun i hi => ?_⟩
  by_cases hik : i < k
  ·have hle : i * c + c ≤ es.length:=by
    rw [h1,← Nat.succ_mul]
    exact Nat.mul_le_mul_right c hik
   rw [List.drop_append_of_le_length (by omega),List.take_append_of_le_length (by rw [List.length_drop];omega)]
   exact h2 i hik
  ·have : i = k:=by omega
   subst this
   rw [← h1,List.drop_left,List.take_of_length_le (by omega)]
theorem mem_each {t : TypeId} {d : DataW H} {n : Nat} : ∀ {ts : List TypeId} {ds : List (DataW H)} {i : Nat},ts[i]? = some t → ds[i]? = some d → n ∈ d.weights P t → n ∈ DataW.weightsEach P ts ds
 | _ :: _,_ :: _,0,ht,hd,h => by
  simp at ht hd;subst ht;subst hd
  simp only [DataW.weightsEach]
  exact List.mem_append_left _ h
 | _ :: ts,_ :: ds,i + 1,ht,hd,h => by
  simp only [DataW.weightsEach]
  exact List.mem_append_right _ (mem_each (ts:=ts) (ds:=ds) (i:=i) (by simpa using ht) (by simpa using hd) h)
 | [],_,_,ht,_,_ => by simp at ht
 | _ :: _,[],_,_,hd,_ => by simp at hd
theorem mem_all {e : TypeId} {d : DataW H} {n : Nat} : ∀ {ds : List (DataW H)},d ∈ ds → n ∈ d.weights P e → n ∈ DataW.weightsAll P e ds
 | [],hd,_ => by cases hd
 | x :: r,hd,h => by
  simp only [DataW.weightsAll]
  rcases List.mem_cons.1 hd with rfl | hd
  ·exact List.mem_append_left _ h
  ·exact List.mem_append_right _ (mem_all hd h)
theorem trod_fit {T : List TypeId} (hT : okTypes P T = true) {R : Nat} : ∀ (n : Nat) (t : TypeId) (cs : List Value) (x : DataW H × List MemPlace),t ∈ T → DataW.trod enc P w 0 (fun _ => true) true n t cs = some x → (∀ k ∈ x.1.weights P t,k ≤ R) →
  ∃ ds,Hold w ds cs∧FitD P R n t ds:=by
 intro n
 induction n with
 | zero => intro t cs x _ h;simp [DataW.trod] at h
 | succ n ih =>
  intro t cs x ht h hR
  have hok:=List.all_eq_true.1 hT t ht
  unfold okType at hok
  unfold FitD
  split at hok
  ·rename_i hu
   obtain ⟨b,rfl,_⟩:=DataW.trod_bool hu h
   exact ⟨[.val (.bool b)],Hold.one (by rw [deepOk_val];exact ⟨rfl,fun ι => by simp⟩),⟨b,rfl⟩⟩
  ·rename_i k hu
   obtain ⟨i,rfl,_,hw⟩:=DataW.trod_int hu h
   exact ⟨[.val (.int k i)],Hold.one (by rw [deepOk_val];exact ⟨rfl,fun ι => by simp⟩),⟨i,rfl,hw⟩⟩
  ·rename_i k hu
   have hfl : ∃ b,cs = [.float k b]∧(Lit.float k b).wf = true:=by
    unfold DataW.trod at h
    rw [hu] at h
    split at h <;> simp_all
   obtain ⟨b,rfl,hw⟩:=hfl
   exact ⟨[.val (.float k b)],Hold.one (by rw [deepOk_val];exact ⟨rfl,fun ι => by simp⟩),⟨b,rfl,hw⟩⟩
  ·rename_i hu
   obtain ⟨s,rfl,hx,hw⟩:=DataW.trod_string hu h
   exact ⟨[.val (.string s)],Hold.one (by rw [deepOk_val];exact ⟨rfl,fun ι => by simp⟩),⟨s,rfl,hw,hR _ (by rw [hx];simp only [DataW.weights,List.mem_singleton];rfl)⟩⟩
  ·rename_i fs hu
   simp only [Bool.and_eq_true] at hok
   obtain ⟨xs,m,hm,hxe,hl,hxl,hf⟩:=DataW.trod_struct hu h
   subst hxe
   simp only [DataW.weights,hu] at hR
   have hmn : m = n:=by omega
   subst hmn
   obtain ⟨ds,h1,h2⟩:=tile_hold (R:=R) (n:=m) (w:=w) fs.toList 0 (P.cellsOf t) hok.1 hl (by
    intro f hfm
    obtain ⟨i,hi⟩:=List.getElem?_of_mem hfm
    have hi' : fs[i]? = some f:=by simpa using hi
    have hg:=hf i f hi'
    have hlt : i < xs.length:=by rw [hxl];exact (Array.getElem?_eq_some_iff.1 hi').1
    rw [List.getElem?_eq_getElem hlt] at hg
    exact ih f.type _ _ (by simpa using List.all_eq_true.1 hok.2 f hfm) hg (fun k hk => hR k (mem_each (i:=i) (by simp [hi']) (by simp [hlt]) hk)))
   simp only [List.drop_zero] at h1
   refine ⟨ds,h1,?_⟩
   refine ⟨by rw [h1.1,hl],fun i f hi => ?_⟩
   have:=(h2 f (Array.mem_toList_iff.2 (Array.mem_of_getElem? hi))).2
   simpa using this
  ·rename_i e hu
   simp only [Bool.and_eq_true,Nat.blt_eq] at hok
   rcases DataW.trod_slice hu h with ⟨rfl,_⟩ | ⟨a,len,cap,elems,rest,m,hm,rfl,hxe,_,hl,hcap,hel,hg1,hg2,_⟩
   ·exact ⟨[.val (.slice none 0 0)],Hold.one (by rw [deepOk_val];exact ⟨rfl,fun ι => by simp⟩),.inl rfl⟩
   ·have hmn : m = n:=by omega
    subst hmn
    obtain ⟨hr1,hr2⟩:=hg2 rfl
    subst hxe
    simp only [DataW.weights,hu,List.length_map] at hR
    have hRc : cap * P.bytesOf e ≤ R:=by
     have:=hR _ (List.mem_cons_self ..)
     rwa [hel,hr1,show len + (cap - len) = cap by omega] at this
    obtain ⟨ab,ao,asp⟩:=a
    rcases Nat.eq_zero_or_pos cap with hc0 | hcp
    ·subst hc0
     have hl0 : len = 0:=by omega
     subst hl0
     exact ⟨[.void asp],Hold.one (by rw [deepOk_void];exact ⟨ab,ao,rfl⟩),.inr (.inl ⟨asp,rfl⟩)⟩
    ·have each : ∀ i,∃ q : List Deep × List Value,i < cap → w.cells? 0 ((⟨ab,ao,asp⟩ : Addr).add (i * P.cellsOf e)) (P.cellsOf e) = some q.2∧Hold w q.1 q.2∧FitD P R m e q.1:=by
      intro i
      by_cases hi : i < cap
      ·have hx : ∃ y,y ∈ elems ++ rest∧(w.cells? 0 ((⟨ab,ao,asp⟩ : Addr).add (i * P.cellsOf e)) (P.cellsOf e)).bind (DataW.trod enc P w 0 (fun _ => true) true m e) = some y:=by
        by_cases hil : i < len
        ·exact ⟨elems[i]'(by omega),List.mem_append_left _ (List.getElem_mem _),by rw [hg1 i hil,List.getElem?_eq_getElem]⟩
        ·have:=hr2 (i - len) (by omega)
         rw [show len + (i - len) = i by omega] at this
         exact ⟨rest[i - len]'(by omega),List.mem_append_right _ (List.getElem_mem _),by rw [this,List.getElem?_eq_getElem]⟩
       obtain ⟨y,hyin,hy⟩:=hx
       rw [Option.bind_eq_some_iff] at hy
       obtain ⟨cs',h1,h2⟩:=hy
       obtain ⟨ds,h3,h4⟩:=ih e cs' y (by simpa using hok.2) h2 (fun k hk => hR k (by
        refine List.mem_cons_of_mem _ ?_
        rcases List.mem_append.1 hyin with hyi | hyi
        ·exact List.mem_append_left _ (mem_all (List.mem_map.2 ⟨y,hyi,rfl⟩) hk)
        ·exact List.mem_append_right _ (mem_all (List.mem_map.2 ⟨y,hyi,rfl⟩) hk)))
       exact ⟨(ds,cs'),fun _ => ⟨h1,h3,h4⟩⟩
      ·exact ⟨([],[]),fun h => absurd h hi⟩
     obtain ⟨q,hq⟩:=Classical.axiomOfChoice each
     have hclen : ∀ i,i < cap → (q i).2.length = P.cellsOf e:=fun i hi => (World.cells?_some (hq i hi).1).2.1
     obtain ⟨es,he1,he2⟩:=blocks (P.cellsOf e) (fun i => (q i).1) cap fun i hi => by rw [(hq i hi).2.1.1,hclen i hi]
     have hcell : ∀ i,i < cap → ∀ r,r < P.cellsOf e → w.cell? (((⟨ab,ao,asp⟩ : Addr).add (i * P.cellsOf e)).add r) = (q i).2[r]?:=fun i hi => (World.cells?_some (hq i hi).1).2.2
     have hsp : asp = none:=by
      have h0:=hcell 0 hcp 0 hok.1
      rw [List.getElem?_eq_getElem (by rw [hclen 0 hcp];exact hok.1)] at h0
      have:=World.cell?_spot h0
      simpa [Addr.add] using this
     subst hsp
     refine ⟨[.row es len cap],Hold.one ?_,.inr (.inr ⟨es,len,cap,rfl,hl,hcp,hcap,hRc,he1,fun i hi => by rw [he2 i hi];exact (hq i hi).2.2⟩)⟩
     rw [deepOk_row]
     refine ⟨ab,ao,rfl,fun j hj => ?_⟩
     have hdiv : j / P.cellsOf e < cap:=by rw [Nat.div_lt_iff_lt_mul hok.1,← he1];exact hj
     have hmod : j % P.cellsOf e < P.cellsOf e:=Nat.mod_lt _ hok.1
     have hje : j / P.cellsOf e * P.cellsOf e + j % P.cellsOf e = j:=by rw [Nat.mul_comm];exact Nat.div_add_mod j _
     have hc:=hcell _ hdiv _ hmod
     rw [addr_add,addr_add,Nat.add_assoc,hje,List.getElem?_eq_getElem (by rw [hclen _ hdiv];exact hmod)] at hc
     refine ⟨block_lt_of_cell hc,trivial,_,hc,?_⟩
     have hd : (q (j / P.cellsOf e)).1[j % P.cellsOf e]? = some es[j]:=by
      have:=he2 _ hdiv
      rw [← this,List.getElem?_take,if_pos hmod,List.getElem?_drop,hje,List.getElem?_eq_getElem]
     exact (hq _ hdiv).2.1.2 _ _ _ hd (List.getElem?_eq_getElem (by rw [hclen _ hdiv];exact hmod))
  ·cases hok
theorem sim0_in (w : World) : Sim Prot.all w 0 { loc:=fun _ => (0,0),ext:=fun _ => 0,fz:=fun b => b < w.heap.size,wb:=w } μ0 w where
 os:=rfl
 tape:=rfl
 output:=rfl
 size:=Nat.le_refl _
 prot _ _ _:=rfl
 lt n o h:=by simp [Hp.get,μ0,Tr.get] at h
 obj n o h:=by simp [Hp.get,μ0,Tr.get] at h
 blk n o h:=by simp [Hp.get,μ0,Tr.get] at h
 free n o h:=by simp [Hp.get,μ0,Tr.get] at h
 inj n m o o' h:=by simp [Hp.get,μ0,Tr.get] at h
 lim:=by simp [μ0]
 glob g h:=by omega
 ro n o h:=by simp [Hp.get,μ0,Tr.get] at h
 fro b hb:=⟨hb,rfl⟩
 ffree n o h:=by simp [Hp.get,μ0,Tr.get] at h
 pfz _ _ _ _:=trivial
end
end Go.Abs
end
section
namespace Go.Abs
theorem keepsF_via {fr : Fr} {sz : Nat} {ts : List (Nat × Value)} {N : Nat} {σ : Nat → Nat} (hs : smallN ts = true) (h1 : fr.sz = sz) (h2 : fr.df = []) (h3 : ∀ p ∈ ts,fr.get p.1 = upV σ p.2) (hb : ∀ p ∈ ts,Bd N p.2) : KeepsF σ N fr (mkFr sz ts) where
 sz:=h1.symm
 df:=⟨h2,rfl⟩
 tmp t ht:=by
  have hg : (mkFr sz ts).get t = (look ts t).getD poison:=by
   unfold Fr.get mkFr
   simp only [mkT_get ts t (smallN_spec hs)]
  rw [hg] at ht ⊢
  cases hl : look ts t with
  | none => rw [hl] at ht;simp [poison,notP] at ht
  | some v =>
   have hm:=look_mem ts t v hl
   simp only [Option.getD_some]
   exact ⟨h3 _ hm,hb _ hm⟩
theorem keeps_via {μ : Hp} {os : List (Nat × AObj)} {N : Nat} {σ : Nat → Nat} (hs : smallN os = true) (h : ∀ p ∈ os,μ.get (σ p.1) = some (upO σ p.2)) (hb : ∀ p ∈ os,p.1 < N∧BdO N p.2)
  (hinj : ∀ p ∈ os,∀ q ∈ os,p.1 ≠ q.1 → σ p.1 ≠ σ q.1) (hN : N ≤ limit) : Keeps σ μ (mkHp N os):=by
 have hget : ∀ n o,(mkHp N os).get n = some o → (n,o) ∈ os:=by
  intro n o hg
  simp only [Hp.get,mkHp,mkT_get os n (smallN_spec hs)] at hg
  exact look_mem os n o hg
 exact ⟨fun n o hg => (hb _ (hget n o hg)).1,fun n o hg => h _ (hget n o hg),fun n o hg => (hb _ (hget n o hg)).2,fun n m o o' h1 h2 _ _ hne => hinj _ (hget n o h1) _ (hget m o' h2) hne,hN⟩
section
variable {P : Program} {E : Env} {pr : Prot} {w0 : World}
theorem tri_came_via (hE : EnvOk P E) (hng : E.ng = 0) (hmix : P.follows .mixedOrders = true) {s : Sm} (hs : SmOk P E pr w0 s) {run0 : CallF} (h0 : CallsOk P pr w0 E.ng run0) {n : Nat} {f : FuncId} {p : List Nat} {c : Code} (hh : Here E f p c)
  {fr : Fr} {μ : Hp} {orc : List Ans} {e : Exit} {sz : Nat} {ts0 : List (Nat × Value)} {os0 : List (Nat × AObj)} {next0 : Nat} (h : Came (codeO P E s run0 n f p c fr μ orc True) e sz ts0 os0 next0)
  (σ : Nat → Nat) {ts : List (Nat × Value)} {os : List (Nat × AObj)} {next : Nat} (ht0 : ∀ p ∈ ts,(p.1,upV σ p.2) ∈ ts0) (ho0 : ∀ p ∈ os,(σ p.1,upO σ p.2) ∈ os0)
  (hinj : ∀ p ∈ os,∀ q ∈ os,p.1 ≠ q.1 → σ p.1 ≠ σ q.1)
  (hne : ∀ ch,e ≠ .panic ch) (hst : smallN ts = true) (hso : smallN os = true) (hbt : ∀ p ∈ ts,Bd next p.2) (hbo : ∀ p ∈ os,p.1 < next∧BdO next p.2) (hlim : next ≤ limit) {N : Nat} (hσ : ∀ n,n < N → σ n = n) (hN : N ≤ next) :
  Tri P pr w0 N c fr μ fun e1 f1 m1 => e1 = e∧f1 = mkFr sz ts∧m1 = mkHp next os:=by
 unfold Came at h
 split at h
 ·rename_i e' fr' μ' orc' O hc
  obtain ⟨hO,rfl,h1,h2,h3,h4,h5⟩:=h
  refine (tri_code hE hng hmix hs h0 hh hc hO N).weaken ?_
  rintro e1 f1 m1 ⟨rfl,rfl,rfl⟩
  exact .inr ⟨σ,mkFr sz ts,mkHp next os,hσ,hN,keeps_via hso (fun p hp => chkH_mem h4 _ (ho0 p hp)) hbo hinj hlim,keepsF_via hst h1 h2 (fun p hp => chkF_mem h3 _ (ht0 p hp)) hbt,hne,rfl,rfl,rfl⟩
 ·exact h.elim
end
end Go.Abs
end
