/-
  An abstract machine: a deterministic, computable interpreter of the translated code over abstract heaps (names in the place of blocks, no tape, no order of operations, capacities of grown slices unknown). This text: the definitions alone. What it computes is proved to be what every run of the program does in the texts behind it.
-/
import Derived.Orders
import Derived.Defers
import Derived.Laws.Append
import Derived.CheckFast
namespace Go.Abs

set_option linter.unusedVariables false

/-! ### Tries -/
inductive Tr (α : Type) where
  | e
  | n (v : Option α) (l r : Tr α)

def Tr.get {α : Type} : Tr α → Nat → Option α
  | .e, _ => none
  | .n v l r, k => bif Nat.beq k 0 then v else bif Nat.beq (k % 2) 1 then l.get (k / 2) else r.get (k / 2 - 1)

def Tr.set {α : Type} : Nat → Tr α → Nat → α → Tr α
  | 0, t, _, _ => t
  | f + 1, .e, k, x => bif Nat.beq k 0 then .n (some x) .e .e else bif Nat.beq (k % 2) 1 then .n none (Tr.set f .e (k / 2) x) .e else .n none .e (Tr.set f .e (k / 2 - 1) x)
  | f + 1, .n v l r, k, x => bif Nat.beq k 0 then .n (some x) l r else bif Nat.beq (k % 2) 1 then .n v (Tr.set f l (k / 2) x) r else .n v l (Tr.set f r (k / 2 - 1) x)

/-! ### The program's tables -/
structure Env where
  info : Nat → Option TypeInfo
  fn : Nat → Option Func
  ng : Nat

def Env.und (E : Env) (t : TypeId) : Option TypeDesc :=
  match E.info t with
  | some i => match i.desc with
    | .named _ u => (E.info u).map (·.desc)
    | d => some d
  | none => none
def Env.size (E : Env) (t : TypeId) : Option Nat := (E.info t).map (·.size)
def Env.isAgg (E : Env) (t : TypeId) : Option Bool := (E.und t).map fun
  | .struct _ | .array _ _ => true
  | _ => false

/-! ### Heaps -/
inductive AObj where
  | cells (vs : List Value) (es : Nat)
  | map (es : List MapEntry) (clock : Nat)
  | sIter (s : ByteArray) (pos : Nat)
  | mIter (m : Option Nat) (since : Nat) (seen : List Nat) (stepped : Nat)
  | dead

structure Hp where
  objs : Tr AObj
  next : Nat

def Hp.get (μ : Hp) (n : Nat) : Option AObj := μ.objs.get n
def Hp.put (μ : Hp) (n : Nat) (o : AObj) : Hp := { μ with objs := Tr.set 40 μ.objs n o }
def limit : Nat := 1000000000
/-- A new name. -/
def Hp.new (μ : Hp) (o : AObj) : Option (Nat × Hp) :=
  bif Nat.blt μ.next limit then some (μ.next, { objs := Tr.set 40 μ.objs μ.next o, next := μ.next + 1 }) else none
def Hp.cells (μ : Hp) (n : Nat) : Option (List Value) :=
  match μ.get n with
  | some (.cells vs _) => some vs
  | _ => none

/-! ### Values without addresses -/
def atom : Value → Bool
  | .bool _ | .int _ _ | .float _ _ | .complex _ _ _ | .string _ | .pointer none | .slice none _ _ | .map none | .nilFunc | .nilIface => true
  | _ => false
def flat : Value → Bool
  | .agg cs => cs.toList.all atom
  | .iface _ (.agg cs) => cs.toList.all atom
  | .iface _ v => atom v
  | v => atom v
def plain : Nat → Value → Bool
  | 0, _ => false
  | n + 1, v => match v with
    | .pointer (some _) | .slice (some _) _ _ | .map (some _) | .chan _ => false
    | .func _ f c => f.toList.all (plain n) && c.toList.all (plain n)
    | .iface _ v => plain n v
    | .agg cs | .tuple cs => cs.toList.all (plain n)
    | _ => true

/-! ### What runs without memory -/
inductive PR (α : Type) where
  | ok (a : α)
  | pan (v : Value)
  | no
def pureRun {α : Type} (P : Program) : Sem α → PR α
  | .pure a => .ok a
  | .program k => pureRun P (k P)
  | .mark _ k => pureRun P k
  | .halt (.panic v) => .pan v
  | _ => .no

/-! ### Frames -/
structure Fr where
  t : Tr Value
  sz : Nat
  df : List Deferred
def Fr.get (fr : Fr) (t : Nat) : Value := (fr.t.get t).getD undef
def Fr.ev (fr : Fr) : Operand → Value
  | .tmp t => fr.get t
  | .const v => v
  | .global g => .pointer (some ⟨g, 0, none⟩)
  | .func f => .func (.func f) #[] #[]
def Fr.set (fr : Fr) (d : Nat) (v : Value) : Fr := { fr with t := Tr.set 40 fr.t d v }
def Fr.put (fr : Fr) (dst : Option Tmp) (v : Value) : Option Fr :=
  match dst with
  | none => some fr
  | some d => bif Nat.blt d fr.sz then some (fr.set d v) else none
def fillArgs : List Value → Nat → Tr Value → Tr Value
  | [], _, t => t
  | v :: vs, i, t => fillArgs vs (i + 1) (Tr.set 40 t i v)
def Fr.enter (fn : Func) (args : List Value) : Option Fr :=
  bif Nat.ble args.length fn.ntmps && Nat.blt fn.ntmps limit then some { t := fillArgs args 0 .e, sz := fn.ntmps, df := [] } else none
def okOpnd (E : Env) : Operand → Bool
  | .const v => plain 4 v
  | .global g => Nat.blt g E.ng
  | _ => true

/-! ### Variables -/
def loadA (E : Env) (t : TypeId) (a : Addr) (μ : Hp) : Option Value :=
  match a.spot with
  | some _ => none
  | none => match μ.cells a.block, E.isAgg t, E.size t with
    | some vs, some true, some n =>
      let r := (vs.drop a.off).take n
      bif Nat.beq r.length n then some (.agg ⟨r⟩) else none
    | some vs, some false, some _ => vs[a.off]?
    | _, _, _ => none
def one : Value → Bool
  | .agg _ | .tuple _ => false
  | _ => true
def setAt : List Value → Nat → List Value → Option (List Value)
  | vs, _, [] => some vs
  | [], _, _ :: _ => none
  | v :: vs, 0, x :: xs => (setAt vs 0 xs).map (x :: ·)
  | v :: vs, k + 1, xs => (setAt vs k xs).map (v :: ·)
def storeCellsA (a : Addr) (xs : List Value) (μ : Hp) : Option Hp :=
  match a.spot, xs.all one with
  | none, true => match μ.get a.block with
    | some (.cells vs es) => (setAt vs a.off xs).map fun vs' => μ.put a.block (.cells vs' es)
    | _ => none
  | _, _ => none
def storeA (E : Env) (t : TypeId) (a : Addr) (v : Value) (μ : Hp) : Option Hp :=
  match E.size t with
  | some n => bif Nat.beq v.cells.size n then storeCellsA a v.cells.toList μ else none
  | none => none
def newVarA (v : Value) (μ : Hp) : Option (Value × Hp) :=
  match μ.new (.cells v.cells.toList 0) with
  | some (n, μ') => some (.pointer (some ⟨n, 0, none⟩), μ')
  | none => none

/-! ### Operations -/
inductive OR where
  | val (v : Value) (μ : Hp)
  | call (f : FuncId) (args : List Value) (μ : Hp)
  | dfr (d : Deferred) (μ : Hp)
  | pan (v : Value) (μ : Hp)
  | no

def ofVal : Option (Value × Hp) → OR
  | some (v, μ) => .val v μ
  | none => .no
def ofV (μ : Hp) : Option Value → OR
  | some v => .val v μ
  | none => .no
def ofHp : Option Hp → OR
  | some μ => .val undef μ
  | none => .no
def ofPR (μ : Hp) : PR Value → OR
  | .ok v => bif flat v then .val v μ else .no
  | .pan v => bif flat v then .pan v μ else .no
  | .no => .no

def partA (E : Env) (t : TypeId) (cs : List Value) (off : Nat) : Option Value :=
  match E.isAgg t, E.size t with
  | some true, some n => some (.agg ⟨(cs.drop off).take n⟩)
  | some false, some _ => cs[off]?
  | _, _ => none

def fillA (place : Nat → Option (Nat × Nat)) (cells : List Value) : List (Nat × Value) → Option (List Value)
  | [] => some cells
  | (i, v) :: rest =>
    match place i with
    | none => none
    | some (off, size) =>
      bif Nat.beq v.cells.size size && Nat.ble (off + v.cells.size) cells.length then
        match setAt cells off v.cells.toList with
        | some cells' => fillA place cells' rest
        | none => none
      else none

def zeroA (E : Env) (t : TypeId) : Option Value :=
  match E.info t with
  | some i => match i.zero with
    | some z => bif plain 3 z then some z else none
    | none => none
  | none => none

/-- n copies, one behind the other. -/
def copies (zs : List Value) : Nat → List Value
  | 0 => []
  | n + 1 => zs ++ copies zs n

def fieldOf (E : Env) (s : TypeId) (f : Nat) : Option Field :=
  match E.und s with
  | some (.struct fs) => fs[f]?
  | _ => none

/-- A slice's room as its holder sees it: twice a number: exact; and one: at least. -/
def capOf (c : Nat) : Nat := c / 2
def capOpen (c : Nat) : Bool := Nat.beq (c % 2) 1

def natOf (v : Value) (bound : Nat) : Option Nat :=
  match v with
  | .int _ i => bif decide (0 ≤ i) && decide (i ≤ bound) then some i.toNat else none
  | _ => none

def buildA (E : Env) (t : TypeId) (parts : List (Nat × Value)) : Option Value :=
  match zeroA E t, E.und t with
  | some z, some (.struct fs) =>
    bif !(fs.toList.all fun f => (E.size f.type).isSome) then none else
    (fillA (fun i => match fs[i]? with | some f => (E.size f.type).map fun s => (f.offset, s) | none => none) z.cells.toList parts).map fun cs => .agg ⟨cs⟩
  | some z, some (.array _ e) => match E.size e with
    | some s => (fillA (fun i => some (i * s, s)) z.cells.toList parts).map fun cs => .agg ⟨cs⟩
    | none => none
  | _, _ => none

def rowOf (E : Env) (e : TypeId) (n : Nat) : Option (List Value) :=
  match zeroA E e, E.size e with
  | some z, some s => bif Nat.beq z.cells.size s then some (copies z.cells.toList n) else none
  | _, _ => none

def buildSliceA (E : Env) (t : TypeId) (len : Nat) (parts : List (Nat × Value)) (μ : Hp) : Option (Value × Hp) :=
  match E.und t with
  | some (.slice e) => match E.size e, rowOf E e len with
    | some s, some row => bif Nat.ble (len * s) 16777216 && Nat.blt 0 s then
        match fillA (fun i => some (i * s, s)) row parts with
        | some cs => match μ.new (.cells cs 0) with
          | some (n, μ') => some (.slice (some ⟨n, 0, none⟩) len (2 * len), μ')
          | none => none
        | none => none
      else none
    | _, _ => none
  | _ => none

def makeSliceA (E : Env) (t : TypeId) (l c : Value) (μ : Hp) : Option (Value × Hp) :=
  match E.und t, natOf c 9223372036854775807, natOf l 9223372036854775807 with
  | some (.slice e), some c, some l => match E.info e with
    | some i => bif Nat.ble l c && Nat.ble (i.bytes * c) 281474976710656 then
        match rowOf E e c with
        | some row => match μ.new (.cells row 0) with
          | some (n, μ') => some (.slice (some ⟨n, 0, none⟩) l (2 * c), μ')
          | none => none
        | none => none
      else none
    | none => none
  | _, _, _ => none

/-- The bounds of x[lo:hi:mx] at a length and a room (the room in the form of a slice's). -/
def boundsA (len cap : Nat) (lo hi mx : Option Value) : Option (Nat × Nat × Nat) :=
  let m : Option Nat := match mx with
    | some v => (natOf v (capOf cap)).map (2 * ·)
    | none => some cap
  match m with
  | none => none
  | some m =>
    let h : Option Nat := match hi with
      | some v => natOf v (capOf m)
      | none => match mx with
        | some _ => none
        | none => some len
    match h with
    | none => none
    | some h =>
      let l : Option Nat := match lo with
        | some v => natOf v h
        | none => some 0
      match l with
      | none => none
      | some l => bif Nat.ble l (capOf m) then some (l, h, m) else none

/-- x[lo:hi:mx]. Where all that is seen of a row with unknown room is cut off, the place is unknown too: a name of its own, which nobody reads. -/
def sliceA (E : Env) (t : TypeId) (x : Value) (lo hi mx : Option Value) (μ : Hp) : Option (Value × Hp) :=
  match E.und t, x with
  | some .string, .string s => match mx with
    | none => match boundsA s.size (2 * s.size) lo hi none with
      | some (l, h, _) => some (.string (s.extract l h), μ)
      | none => none
    | some _ => none
  | some (.slice e), .slice (some a) len cap => match E.size e, boundsA len cap lo hi mx, a.spot with
    | some s, some (l, h, m), none =>
      match Nat.beq (capOf m) l, capOpen m with
      | true, false => some (.slice (some a) (h - l) (m - 2 * l), μ)
      | true, true => match μ.new .dead with
        | some (k, μ') => some (.slice (some ⟨k, 0, none⟩) (h - l) (m - 2 * l), μ')
        | none => none
      | false, _ => some (.slice (some (a.add (l * s))) (h - l) (m - 2 * l), μ)
    | _, _, _ => none
  | some (.slice e), .slice none 0 0 => match E.size e, boundsA 0 0 lo hi mx with
    | some _, some _ => some (.slice none 0 0, μ)
    | _, _ => none
  | some (.array n e), .pointer (some a) => match E.size e, boundsA n (2 * n) lo hi mx with
    | some s, some (l, h, m) => some (.slice (some (bif Nat.beq (capOf m) l then a else a.add (l * s))) (h - l) (m - 2 * l), μ)
    | _, _ => none
  | _, _ => none

def indexAddrA (E : Env) (t : TypeId) (x i : Value) : Option Value :=
  match E.und t, x with
  | some (.slice e), .slice (some a) len _ => match len with
    | 0 => none
    | n + 1 => match natOf i n, E.size e with
      | some k, some s => some (.pointer (some (a.add (k * s))))
      | _, _ => none
  | some (.array (n + 1) e), .pointer (some a) => match natOf i n, E.size e with
    | some k, some s => some (.pointer (some (a.add (k * s))))
    | _, _ => none
  | _, _ => none

def indexA (E : Env) (t : TypeId) (x i : Value) : Option Value :=
  match E.und t, x with
  | some (.array (n + 1) e), .agg cs => match natOf i n, E.size e with
    | some k, some s => partA E e cs.toList (k * s)
    | _, _ => none
  | some .string, .string s => match i with
    | .int _ k => bif decide (0 ≤ k) then (match s.data.toList[k.toNat]? with
      | some b => some (.int .u8 b.toNat)
      | none => none) else none
    | _ => none
  | _, _ => none

/-- Equality with nil, where an operand has an address. -/
def nilEq : TypeDesc → Value → Value → Option Bool
  | .pointer _, .pointer none, .pointer b => some b.isNone
  | .pointer _, .pointer (some _), .pointer none => some false
  | .slice _, .slice none _ _, .slice b _ _ => some b.isNone
  | .slice _, .slice (some _) _ _, .slice none _ _ => some false
  | .map _ _, .map none, .map b => some b.isNone
  | .map _ _, .map (some _), .map none => some false
  | .func _ _ _, .nilFunc, .nilFunc => some true
  | .func _ _ _, .nilFunc, .func _ _ _ => some false
  | .func _ _ _, .func _ _ _, .nilFunc => some false
  | .interface _, .nilIface, .iface _ _ => some false
  | .interface _, .iface _ _, .nilIface => some false
  | _, _, _ => none

def constOp : Operand → Bool
  | .const _ => true
  | _ => false

def binOpA (P : Program) (E : Env) (op : BinOp) (t : TypeId) (ox oy : Operand) (x y : Value) (μ : Hp) : OR :=
  match op, x, y with
  | .eql, .nilIface, .nilIface => match E.und t with
    | some (.interface _) => bif constOp ox || constOp oy then .val (.bool true) μ else .no
    | _ => .no
  | .neq, .nilIface, .nilIface => match E.und t with
    | some (.interface _) => bif constOp ox || constOp oy then .val (.bool false) μ else .no
    | _ => .no
  | op, x, y =>
    bif flat x && flat y then ofPR μ (pureRun P (do eqGuard op t ox oy x y; binOp op t x y))
    else match op, (E.und t).bind fun d => nilEq d x y with
      | .eql, some b => .val (.bool b) μ
      | .neq, some b => .val (.bool !b) μ
      | _, _ => .no

def intList (b : List UInt8) : List Value := b.map fun b => .int .u8 b.toNat
def bytesOf : List Value → Option (List UInt8)
  | [] => some []
  | .int .u8 n :: r => (bytesOf r).map (UInt8.ofNat n.toNat :: ·)
  | _ :: _ => none

/-- The cells of what is appended or copied: a slice's first n elements, a string's first n bytes. -/
def firstA (s n : Nat) (x : Value) (μ : Hp) : Option (List Value) :=
  match x with
  | .slice none _ _ => some []
  | .slice (some a) _ _ => match n with
    | 0 => some []
    | n + 1 => match a.spot, μ.cells a.block with
      | none, some vs =>
        let r := (vs.drop a.off).take ((n + 1) * s)
        bif Nat.beq r.length ((n + 1) * s) then some r else none
      | _, _ => none
  | .string b => some (intList (b.data.toList.take n))
  | _ => none
def lenA : Value → Option Nat
  | .slice _ n _ => some n
  | .string s => some s.size
  | _ => none

def convertA (P : Program) (E : Env) (src dst : TypeId) (x : Value) (μ : Hp) : OR :=
  match E.und src, E.und dst, x with
  | some _, some (.int k), .int _ n => .val (.int k (k.wrap n)) μ
  | some _, some .string, .string s => .val (.string s) μ
  | some _, some (.slice e), .string s => match E.und e with
    | some (.int .u8) => match μ.new (.cells (intList s.data.toList) 1) with
      | some (n, μ') => .val (.slice (some ⟨n, 0, none⟩) s.size (2 * s.size + 1)) μ'
      | none => .no
    | _ => .no
  | some (.slice e), some .string, .slice none _ _ => match E.und e with
    | some (.int .u8) => .val (.string .empty) μ
    | _ => .no
  | some (.slice e), some .string, .slice (some a) len c => match E.und e, firstA 1 len (.slice (some a) len c) μ with
    | some (.int .u8), some vs => match bytesOf vs with
      | some l => .val (.string ⟨⟨l⟩⟩) μ
      | none => .no
    | _, _ => .no
  | some (.int _), some (.float _), .int _ _ | some (.float _), some _, .float _ _ => ofPR μ (pureRun P (convert src dst x))
  | _, _, _ => .no

/-! #### append, copy, len, cap, min, max, delete, clear -/
/-- The old row of an append that may grow in place is not seen any more. -/
def openA (base : Option Addr) (cap size : Nat) (μ : Hp) : Option Hp :=
  match base with
  | none => some μ
  | some a => match capOpen cap with
    | false => some μ
    | true => match a.spot, μ.get a.block with
      | none, some (.cells vs es) => bif Nat.beq es size && Nat.beq (a.off + capOf cap * size) vs.length then some (μ.put a.block .dead) else none
      | _, _ => none
def growA (E : Env) (e : TypeId) (base : Option Addr) (len cap : Nat) (n : Nat) (old new : List Value) (μ : Hp) : Option (Value × Hp) :=
  match E.info e with
  | some i =>
    bif Nat.ble ((len + n) * i.bytes) 140737488355328 && Nat.blt 0 i.size && Nat.ble (len + n) 4611686018427387904 && Nat.beq old.length (len * i.size) && Nat.beq new.length (n * i.size) && new.all one && (zeroA E e).any fun z => Nat.beq z.cells.size i.size then
      match openA base cap i.size μ with
      | some μ1 => match μ1.new (.cells (old ++ new) i.size) with
        | some (k, μ') => some (.slice (some ⟨k, 0, none⟩) (len + n) (2 * (len + n) + 1), μ')
        | none => none
      | none => none
    else none
  | none => none

def appendB (E : Env) (e : TypeId) (base : Option Addr) (len cap : Nat) (x : Value) (μ : Hp) : Option (Value × Hp) :=
  match E.size e, lenA x with
  | some s, some n => match firstA s n x μ with
    | some new => match base with
      | none => bif Nat.beq len 0 && Nat.beq cap 0 then (bif Nat.beq n 0 then some (.slice none 0 0, μ) else growA E e none 0 0 n [] new μ) else none
      | some a => match Nat.ble (len + n) (capOf cap) with
        | true => bif Nat.beq n 0 then some (.slice (some a) len cap, μ)
          else match storeCellsA (a.add (len * s)) new μ with
            | some μ' => some (.slice (some a) (len + n) cap, μ')
            | none => none
        | false => match firstA s len (.slice (some a) len cap) μ with
          | some old => growA E e (some a) len cap n old new μ
          | none => none
    | none => none
  | _, _ => none
def isInt : TypeDesc → Bool
  | .int _ => true
  | _ => false
def appendA (E : Env) (argTypes : List TypeId) (args : List Value) (μ : Hp) : Option (Value × Hp) :=
  match argTypes, args with
  | [t, u], [.slice base len cap, x] => match E.und t, E.und u with
    | some (.slice e), some ud => bif isInt ud then none else appendB E e base len cap x μ
    | _, _ => none
  | _, _ => none

def copyA (E : Env) (argTypes : List TypeId) (args : List Value) (μ : Hp) : Option (Value × Hp) :=
  match argTypes, args with
  | [t, _], [.slice base len _, x] => match E.und t with
    | some (.slice e) => match E.size e, lenA x with
      | some s, some m => match firstA s (Nat.min m len) x μ with
        | some new => match base with
          | none => some (goInt (Nat.min m len), μ)
          | some a => match new with
            | [] => some (goInt (Nat.min m len), μ)
            | _ => match storeCellsA a new μ with
              | some μ' => some (goInt (Nat.min m len), μ')
              | none => none
        | none => none
      | _, _ => none
    | _ => none
  | _, _ => none

def lenBA (E : Env) (argTypes : List TypeId) (args : List Value) (μ : Hp) : Option Value :=
  match argTypes, args with
  | [t], [x] => match E.und t, x with
    | some .string, .string s => some (goInt s.size)
    | some (.array n _), _ => some (goInt n)
    | some (.slice _), .slice _ n _ => some (goInt n)
    | some (.map _ _), .map none => some (goInt 0)
    | some (.map _ _), .map (some r) => match μ.get r with
      | some (.map es _) => some (goInt es.length)
      | _ => none
    | _, _ => none
  | _, _ => none

def capBA (E : Env) (argTypes : List TypeId) (args : List Value) : Option Value :=
  match argTypes, args with
  | [t], [x] => match E.und t, x with
    | some (.array n _), _ => some (goInt n)
    | some (.slice _), .slice (some _) _ c => bif capOpen c then none else some (goInt (capOf c))
    | some (.slice _), .slice none 0 0 => some (goInt 0)
    | _, _ => none
  | _, _ => none

/-- The place of a key among a map's entries. -/
def findA (P : Program) (kd : TypeDesc) (kt : TypeId) (k : Value) : List MapEntry → Nat → Option (Option Nat)
  | [], _ => some none
  | e :: es, i =>
    match Instr.sameNow kd k e.key with
    | some true => some (some i)
    | some false => findA P kd kt k es (i + 1)
    | none => bif flat e.key then match pureRun P (Op.equal kt k e.key) with
        | .ok true => some (some i)
        | .ok false => findA P kd kt k es (i + 1)
        | _ => none
      else none
def scalarKey : TypeDesc → Bool
  | .int _ | .string | .bool => true
  | _ => false
/-- May this value be a key, and where is it? -/
def isOk {α : Type} : PR α → Bool
  | .ok _ => true
  | _ => false
def keyA (P : Program) (E : Env) (kt : TypeId) (k : Value) (es : List MapEntry) : Option (Option Nat) :=
  match E.und kt with
  | some kd =>
    bif flat k && (es.all fun e => flat e.key) && (scalarKey kd || (isOk (pureRun P (Instr.checkKey true 10000 kt k)) && isOk (pureRun P (Instr.checkKey false 10000 kt k)))) then
      bif scalarKey kd && !(es.all fun e => (Instr.sameNow kd k e.key).isSome) then none else findA P kd kt k es 0
    else none
  | none => none

def entriesA (x : Value) (μ : Hp) : Option (List MapEntry) :=
  match x with
  | .map none => some []
  | .map (some r) => match μ.get r with
    | some (.map es _) => some es
    | _ => none
  | _ => none
def lookupA (P : Program) (E : Env) (t : TypeId) (x k : Value) (ok : Bool) (μ : Hp) : Option Value :=
  match E.und t with
  | some (.map kt et) =>
    match entriesA x μ with
    | none => none
    | some es => match keyA P E kt k es, zeroA E et with
      | some (some i), some _ => match es[i]? with
        | some e => some (bif ok then .tuple #[e.val, .bool true] else e.val)
        | none => none
      | some none, some z => some (bif ok then .tuple #[z, .bool false] else z)
      | _, _ => none
  | _ => none

def setEntry (es : List MapEntry) (i : Nat) (k v : Value) : List MapEntry :=
  match es, i with
  | [], _ => []
  | e :: es, 0 => { e with key := k, val := v } :: es
  | e :: es, i + 1 => e :: setEntry es i k v

def updateA (P : Program) (E : Env) (t : TypeId) (x k v : Value) (μ : Hp) : Option Hp :=
  match E.und t, x with
  | some (.map kt _), .map (some r) => match μ.get r with
    | some (.map es clock) => match keyA P E kt k es with
      | some (some i) => match es[i]? with
        | some e => bif Instr.sameBits 10000 e.key k then some (μ.put r (.map (setEntry es i k v) clock)) else none
        | none => none
      | some none => some (μ.put r (.map (es ++ [{ key := k, val := v, born := clock }]) (clock + 1)))
      | none => none
    | _ => none
  | _, _ => none

def deleteA (P : Program) (E : Env) (argTypes : List TypeId) (args : List Value) (μ : Hp) : Option (Value × Hp) :=
  match argTypes, args with
  | t :: _, [x, k] => match E.und t, x with
    | some (.map kt _), .map (some r) => match μ.get r with
      | some (.map es clock) => match keyA P E kt k es with
        | some (some i) => some (.tuple #[], μ.put r (.map (es.eraseIdx i) clock))
        | some none => some (.tuple #[], μ.put r (.map es clock))
        | none => none
      | _ => none
    | some (.map kt _), .map none => match keyA P E kt k [] with
      | some _ => some (.tuple #[], μ)
      | none => none
    | _, _ => none
  | _, _ => none

def builtinA (P : Program) (E : Env) (b : Builtin) (argTypes : List TypeId) (type : TypeId) (args : List Value) (μ : Hp) : OR :=
  match b with
  | .append => ofVal (appendA E argTypes args μ)
  | .copy => ofVal (copyA E argTypes args μ)
  | .len => ofV μ (lenBA E argTypes args μ)
  | .cap => ofV μ (capBA E argTypes args)
  | .delete => ofVal (deleteA P E argTypes args μ)
  | .min => bif args.all flat then ofPR μ (pureRun P (Builtin.min_ ⟨argTypes⟩ type ⟨args⟩)) else .no
  | .max => bif args.all flat then ofPR μ (pureRun P (Builtin.max_ ⟨argTypes⟩ type ⟨args⟩)) else .no
  | _ => .no

/-! #### Ranges -/
def rangeA (E : Env) (t : TypeId) (x : Value) (μ : Hp) : Option (Value × Hp) :=
  let o : Option AObj := match E.und t, x with
    | some .string, .string s => some (.sIter s 0)
    | some (.map _ _), .map none => some (.mIter none 0 [] 0)
    | some (.map _ _), .map (some m) => match μ.get m with
      | some (.map _ clock) => some (.mIter (some m) clock [] clock)
      | _ => none
    | _, _ => none
  match o with
  | some o => match μ.new o with
    | some (n, μ') => some (.pointer (some ⟨n, 0, none⟩), μ')
    | none => none
  | none => none

/-- The next of a string, or of a map of which at most one entry is left. -/
def nextA (it : Value) (isString : Bool) (μ : Hp) : Option (Value × Hp) :=
  match it with
  | .pointer (some ⟨r, 0, none⟩) => match μ.get r, isString with
    | some (.sIter s pos), true =>
      bif Nat.blt pos s.size then
        let d := Utf8.decode s pos
        some (.tuple #[.bool true, goInt pos, .int .i32 d.1], μ.put r (.sIter s (pos + d.2)))
      else some (.tuple #[.bool false], μ)
    | some (.mIter none _ _ _), false => some (.tuple #[.bool false], μ)
    | some (.mIter (some m) since seen last), false => match μ.get m with
      | some (.map es clock) =>
        bif !seen.isEmpty && !es.isEmpty && es.all (fun e => Nat.ble last e.born) then none
        else match es.filter fun e => !seen.contains e.born with
          | [] => some (.tuple #[.bool false], μ)
          | [e] => bif Nat.blt e.born since then some (.tuple #[.bool true, e.key, e.val], μ.put r (.mIter (some m) since (seen ++ [e.born]) clock)) else none
          | _ => none
      | _ => none
    | _, _ => none
  | _ => none

def entryA (it : Value) (μ : Hp) : Option Value :=
  match it with
  | .pointer (some ⟨r, 0, none⟩) => match μ.get r with
    | some (.mIter (some m) _ seen stepped) => match seen.getLast?, μ.get m with
      | some stamp, some (.map es clock) =>
        bif Nat.beq clock stepped then match es.find? (fun e => Nat.beq e.born stamp) with
          | some e => some (.tuple #[e.key, e.val])
          | none => none
        else none
      | _, _ => none
    | _ => none
  | _ => none

def failA (E : Env) (t : TypeId) (ok : Bool) : Option Value :=
  bif ok then (zeroA E t).map fun z => .tuple #[z, .bool false] else none
def heldA (v : Value) (ok : Bool) : Value := bif ok then .tuple #[v, .bool true] else v
def wantOf : TypeDesc → Option (Array (String × TypeId))
  | .interface ms => some ms
  | _ => none
def assertA (E : Env) (x : Value) (asserted : TypeId) (ok : Bool) : Option Value :=
  match E.und asserted with
  | none => none
  | some d => match wantOf d with
    | some want => match x with
      | .nilIface => failA E asserted ok
      | .iface t v => match E.info t with
        | some i => match Instr.missingMethod want i.methods with
          | none => some (heldA (.iface t v) ok)
          | some _ => failA E asserted ok
        | none => none
      | _ => none
    | none => match x with
      | .nilIface => failA E asserted ok
      | .iface t v => bif Nat.beq t asserted then some (heldA v ok) else failA E asserted ok
      | _ => none

def nilCheckA (x : Value) : Option Value :=
  match x with
  | .pointer none | .nilIface | .nilFunc => none
  | .func (.method _) _ _ => none
  | x => some x

def valueCall (f : Value) (args : List Value) : Option (FuncId × List Value) :=
  match f with
  | .func (.func g) first captured => some (g, first.toList ++ args ++ captured.toList)
  | _ => none

def opA (P : Program) (E : Env) (ev : Operand → Value) (o : Oper) (μ : Hp) : OR :=
  bif o.op.operands.toList.all (okOpnd E) then
    match o.op with
    | .move x | .assign x => .val (ev x) μ
    | .pick c a b => match ev c with
      | .bool true => .val (ev a) μ
      | .bool false => .val (ev b) μ
      | _ => .no
    | .alloc t => match zeroA E t with
      | some z => ofVal (newVarA z μ)
      | none => .no
    | .box _ x => ofVal (newVarA (ev x) μ)
    | .build t parts => ofV μ (buildA E t (parts.toList.map fun (i, x) => (i, ev x)))
    | .buildSlice t len parts => ofVal (buildSliceA E t len (parts.toList.map fun (i, x) => (i, ev x)) μ)
    | .load t a => match ev a with
      | .pointer (some a) => ofV μ (loadA E t a μ)
      | _ => .no
    | .store t a x => match ev a with
      | .pointer (some a) => ofHp (storeA E t a (ev x) μ)
      | _ => .no
    | .nilCheck x => ofV μ (nilCheckA (ev x))
    | .binOp op t x y _ => binOpA P E op t x y (ev x) (ev y) μ
    | .unOp op _ x => bif flat (ev x) then ofPR μ (pureRun P (Op.unary op (ev x))) else .no
    | .convert src dst x => convertA P E src dst (ev x) μ
    | .makeInterface t x => match E.und t with
      | some (.interface _) => .no
      | some _ => .val (.iface t (ev x)) μ
      | none => .no
    | .makeFunc fn first captured => .val (.func fn ⟨first.toList.map ev⟩ ⟨captured.toList.map ev⟩) μ
    | .makeMap t r => match E.und t, r with
      | some (.map _ _), none => ofVal (match μ.new (.map [] 0) with | some (n, μ') => some (.map (some n), μ') | none => none)
      | some (.map _ _), some r => match ev r with
        | .int _ _ => ofVal (match μ.new (.map [] 0) with | some (n, μ') => some (.map (some n), μ') | none => none)
        | _ => .no
      | _, _ => .no
    | .makeSlice t l c => ofVal (makeSliceA E t (ev l) (ev c) μ)
    | .slice t x lo hi mx => ofVal (sliceA E t (ev x) (lo.map ev) (hi.map ev) (mx.map ev) μ)
    | .fieldAddr s x f => match ev x, fieldOf E s f with
      | .pointer (some a), some fd => match E.size fd.type with
        | some 0 => .no
        | some (_ + 1) => .val (.pointer (some (a.add fd.offset))) μ
        | none => .no
      | _, _ => .no
    | .field t x f => match ev x, fieldOf E t f with
      | .agg cs, some fd => ofV μ (partA E fd.type cs.toList fd.offset)
      | _, _ => .no
    | .indexAddr t x i => ofV μ (indexAddrA E t (ev x) (ev i))
    | .index t x i => ofV μ (indexA E t (ev x) (ev i))
    | .lookup t x i ok => ofV μ (lookupA P E t (ev x) (ev i) ok μ)
    | .mapUpdate t m k x | .insert t m k x => ofHp (updateA P E t (ev m) (ev k) (ev x) μ)
    | .range t x => ofVal (rangeA E t (ev x) μ)
    | .next it isString => ofVal (nextA (ev it) isString μ)
    | .entry it => ofV μ (entryA (ev it) μ)
    | .typeAssert x _ asserted ok => ofV μ (assertA E (ev x) asserted ok)
    | .extract x i => match ev x with
      | .tuple vs => ofV μ (vs.toList[i]?)
      | _ => .no
    | .call c => match c.callee with
      | .builtin b => builtinA P E b c.argTypes.toList o.type (c.args.toList.map ev) μ
      | .value f => match valueCall (ev f) (c.args.toList.map ev) with
        | some (g, args) => bif (E.fn g).isSome then .call g args μ else .no
        | none => .no
      | .invoke _ _ => .no
    | .defer c => match c.callee with
      | .value f => match ev f with
        | .func fn first captured => .dfr { target := .fn fn captured, args := ⟨first.toList ++ c.args.toList.map ev⟩ } μ
        | _ => .no
      | _ => .no
    | .panic x => match ev x with
      | .iface t v => .pan (.iface t v) μ
      | _ => .no
    | _ => .no
  else .no

/-! ### Regions -/
def wantedA (ops : Array Oper) (fr : Fr) (o : Oper) : Bool :=
  match o.guard with
  | none => true
  | some (j, want) => match ((ops[j]?).bind (·.dst)) with
    | some d => match fr.get d with
      | .bool b => b == want
      | _ => false
    | none => false

/-- Does it write or make memory, or call? -/
def loud (E : Env) : Op → Bool
  | .convert _ t _ => match E.und t with
    | some (.slice _) => true
    | _ => false
  | .move _ | .assign _ | .pick .. | .build .. | .load .. | .nilCheck .. | .binOp .. | .unOp .. | .makeInterface .. | .makeFunc .. | .fieldAddr .. | .field .. | .indexAddr .. | .index .. | .slice ..
  | .lookup .. | .entry .. | .typeAssert .. | .extract .. => false
  | .call { callee := .builtin .len, .. } | .call { callee := .builtin .cap, .. } | .call { callee := .builtin .min, .. } | .call { callee := .builtin .max, .. } => false
  | _ => true
inductive RR where
  | ok (fr : Fr) (μ : Hp)
  | pan (chain : List PanicEntry) (fr : Fr) (μ : Hp)
  | no

abbrev CallF := FuncId → List Value → Hp → Option (Ending × Hp)

def regA (P : Program) (E : Env) (callF : CallF) (ops : Array Oper) : List Oper → Fr → Hp → RR
  | [], fr, μ => .ok fr μ
  | o :: rest, fr, μ =>
    match wantedA ops fr o with
    | false => match fr.put o.dst undef with
      | some fr' => regA P E callF ops rest fr' μ
      | none => .no
    | true => match opA P E fr.ev o μ with
      | .val v μ' => match fr.put o.dst v with
        | some fr' => regA P E callF ops rest fr' μ'
        | none => .no
      | .dfr d μ' => match ({ fr with df := d :: fr.df } : Fr).put o.dst undef with
        | some fr' => regA P E callF ops rest fr' μ'
        | none => .no
      | .pan v μ' => .pan [{ v, recovered := false }] fr μ'
      | .call f args μ' => match callF f args μ' with
        | some (.returned v, μ'') => match fr.put o.dst v with
          | some fr' => regA P E callF ops rest fr' μ''
          | none => .no
        | some (.panicked ch, μ'') => .pan ch fr μ''
        | _ => .no
      | .no => .no

/-! #### Regions whose order is open -/
structure Step where
  fr : Fr
  v : Value
  on : Bool
  k : Nat
/-- A region in the order of its text: each operation with what it met, the heaps behind its loud ones. -/
def stepsA (P : Program) (E : Env) (callF : CallF) (ops : Array Oper) : List Oper → Fr → Hp → Nat → Option (List Step × List Hp × Fr)
  | [], fr, μ, _ => some ([], [μ], fr)
  | o :: rest, fr, μ, k =>
    match wantedA ops fr o with
    | false => match fr.put o.dst undef with
      | some fr' => (stepsA P E callF ops rest fr' μ k).map fun r => ({ fr, v := undef, on := false, k } :: r.1, r.2)
      | none => none
    | true => match opA P E fr.ev o μ, loud E o.op with
      | .val v μ', false => bif Nat.beq μ'.next μ.next then (match fr.put o.dst v with
        | some fr' => (stepsA P E callF ops rest fr' μ k).map fun r => ({ fr, v, on := true, k } :: r.1, r.2)
        | none => none) else none
      | .val v μ', true => match fr.put o.dst v with
        | some fr' => (stepsA P E callF ops rest fr' μ' (k + 1)).map fun r => ({ fr, v, on := true, k } :: r.1, μ :: r.2.1, r.2.2)
        | none => none
      | .call f args μ', true => match callF f args μ' with
        | some (.returned v, μ'') => match fr.put o.dst v with
          | some fr' => (stepsA P E callF ops rest fr' μ'' (k + 1)).map fun r => ({ fr, v, on := true, k } :: r.1, μ :: r.2.1, r.2.2)
          | none => none
        | _ => none
      | _, _ => none

def dstEq (a b : Option Tmp) : Bool :=
  match a, b with
  | some x, some y => Nat.beq x y
  | _, _ => false
def looks (ops : Array Oper) (o : Oper) : List Tmp := o.looksAt ops
/-- What each operation surely has before it, as bits. -/
def befA : List Oper → List Nat → List Nat
  | [], b => b
  | o :: r, b => CheckFast.force (CheckFast.one (fun i => b.getD i 0) o) fun v => befA r (b ++ [v])
/-- May the order of these operations be any? By the text alone. -/
def pairOk (E : Env) (ops : Array Oper) (b : List Nat) (oi : Oper) (i : Nat) (oj : Oper) (j : Nat) : Bool :=
  (Nat.beq i j || (!dstEq oi.dst oj.dst && (Nat.ble j i || !(loud E oi.op && loud E oj.op) || (b.getD j 0).testBit i))) &&
  (match oi.dst with
    | some d => !((looks ops oj).any fun t => Nat.beq t d) || (!Nat.beq i j && ((b.getD j 0).testBit i || (b.getD i 0).testBit j))
    | none => true)
def pairsOk (E : Env) (ops : Array Oper) (b : List Nat) (oj : Oper) (j : Nat) : List Oper → Nat → Bool
  | [], _ => true
  | oi :: r, i => pairOk E ops b oi i oj j && pairsOk E ops b oj j r (i + 1)
def openFrom (E : Env) (ops : Array Oper) (b : List Nat) : List Oper → Nat → Bool
  | [], _ => true
  | oj :: r, j => (oj.after.toList.all fun e => !Region.binds .any e || Nat.blt e.on j) && pairsOk E ops b oj j ops.toList 0 && openFrom E ops b r (j + 1)
def openOk (E : Env) (ops : Array Oper) (b : List Nat) : Bool := openFrom E ops b ops.toList 0

def eqV : Nat → Value → Value → Bool
  | 0, _, _ => false
  | n + 1, a, b => match a, b with
    | .bool x, .bool y => x == y
    | .int k x, .int l y => decide (k = l) && decide (x = y)
    | .float k x, .float l y => decide (k = l) && Nat.beq x y
    | .string x, .string y => decide (x.data.toList = y.data.toList)
    | .pointer x, .pointer y => decide (x = y)
    | .slice x l c, .slice y l' c' => decide (x = y) && Nat.beq l l' && Nat.beq c c'
    | .map x, .map y => decide (x = y)
    | .nilFunc, .nilFunc => true
    | .nilIface, .nilIface => true
    | .func f a c, .func g a' c' => decide (f = g) && eqVs n a.toList a'.toList && eqVs n c.toList c'.toList
    | .iface t x, .iface u y => Nat.beq t u && eqV n x y
    | .agg x, .agg y => eqVs n x.toList y.toList
    | .tuple x, .tuple y => eqVs n x.toList y.toList
    | _, _ => false
where
  eqVs (n : Nat) : List Value → List Value → Bool
    | [], [] => true
    | a :: as, b :: bs => eqV n a b && eqVs n as bs
    | _, _ => false

/-- Does a quiet operation answer the same in this heap? -/
def sameAt (P : Program) (E : Env) (o : Oper) (s : Step) (μ : Hp) : Bool :=
  match opA P E s.fr.ev o μ with
  | .val v μ' => Nat.beq μ'.next μ.next && eqV 6 s.v v
  | _ => false
def countB : List Bool → (Nat → Bool) → Nat → Nat
  | [], _, _ => 0
  | b :: bs, p, i => (bif b && p i then 1 else 0) + countB bs p (i + 1)
def loudOn (E : Env) (ops : Array Oper) (steps : List Step) : List Bool := List.zipWith (fun o s => loud E o.op && s.on) ops.toList steps
def heapsOk (P : Program) (E : Env) (o : Oper) (s : Step) (lo hi : Nat) : List Hp → Nat → Bool
  | [], _ => true
  | μ :: r, k => (Nat.blt k lo || Nat.blt hi k || sameAt P E o s μ) && heapsOk P E o s lo hi r (k + 1)
def quietAt (P : Program) (E : Env) (b : List Nat) (ls : List Bool) (heaps : List Hp) (o : Oper) (s : Step) (j : Nat) : Bool :=
  loud E o.op || !s.on ||
    (let lo := countB ls (fun i => (b.getD j 0).testBit i) 0
     let hi := countB ls (fun i => !(b.getD i 0).testBit j) 0
     (Nat.beq lo s.k && Nat.beq hi s.k) || heapsOk P E o s lo hi heaps 0)
def quietOk (P : Program) (E : Env) (b : List Nat) (ls : List Bool) (heaps : List Hp) : List Oper → List Step → Nat → Bool
  | o :: os, s :: ss, j => quietAt P E b ls heaps o s j && quietOk P E b ls heaps os ss (j + 1)
  | _, _, _ => true

def drawnA (P : Program) (E : Env) (callF : CallF) (ops : Array Oper) (fr : Fr) (μ : Hp) : Option (Fr × Hp) :=
  let b := befA ops.toList []
  bif openOk E ops b then
    match stepsA P E callF ops ops.toList fr μ 0 with
    | some (steps, heaps, fr') => bif quietOk P E b (loudOn E ops steps) heaps ops.toList steps 0 then (heaps.getLast?.map fun μ' => (fr', μ')) else none
    | none => none
  else none

/-! ### Code -/
abbrev CodeF := Code → Fr → Hp → Option (Exit × Fr × Hp)

def resultsA (E : Env) (fr : Fr) (μ : Hp) : List ResultVar → Option (List Value)
  | [] => some []
  | .tmp t :: rest => (resultsA E fr μ rest).map (fr.get t :: ·)
  | .cell a t :: rest => match fr.get a with
    | .pointer (some a) => match loadA E t a μ, resultsA E fr μ rest with
      | some v, some vs => some (v :: vs)
      | _, _ => none
    | _ => none
def packed : List Value → Value
  | [v] => v
  | vs => .tuple ⟨vs⟩

def leaveA (E : Env) (fn : Func) (r : Option (Exit × Fr × Hp)) : Option (Ending × Hp) :=
  match r with
  | some (.normal, fr, μ) | some (.ret, fr, μ) => match fr.df with
    | [] => match resultsA E fr μ fn.results.toList with
      | some vs => some (.returned (packed vs), μ)
      | none => none
    | _ :: _ => none
  | some (.panic ch, fr, μ) => match fr.df with
    | [] => some (.panicked ch, μ)
    | _ :: _ => none
  | _ => none

def callA (E : Env) (S : FuncId → Option (List Value → Hp → Option (Ending × Hp))) (rc : CodeF) : CallF := fun f args μ =>
  match S f with
  | some s => s args μ
  | none => match E.fn f with
    | some fn => match fn.body, Fr.enter fn args with
      | some c, some fr => leaveA E fn (rc c fr μ)
      | _, _ => none
    | none => none

/-- The rounds of a loop. -/
def loopA (rc : CodeF) (c : Code) : Nat → Fr → Hp → Option (Exit × Fr × Hp)
  | 0, _, _ => none
  | n + 1, fr, μ => match rc c fr μ with
    | some (.normal, fr', μ') => loopA rc c n fr' μ'
    | r => r
def mostRounds : Nat := 1000000000000

def codeStep (P : Program) (E : Env) (S : FuncId → Option (List Value → Hp → Option (Ending × Hp))) (rc : CodeF) : CodeF := fun c fr μ =>
  match c with
  | .skip | .label _ => some (.normal, fr, μ)
  | .region _ ops false => match regA P E (callA E S rc) ops ops.toList fr μ with
    | .ok fr' μ' => some (.normal, fr', μ')
    | .pan ch fr' μ' => some (.panic ch, fr', μ')
    | .no => none
  | .region _ ops true => match drawnA P E (callA E S rc) ops fr μ with
    | some (fr', μ') => some (.normal, fr', μ')
    | none => none
  | .seq a b => match rc a fr μ with
    | some (.normal, fr', μ') => rc b fr' μ'
    | r => r
  | .cond x a b => bif okOpnd E x then (match fr.ev x with
    | .bool true => rc a fr μ
    | .bool false => rc b fr μ
    | _ => none) else none
  | .block id a => match rc a fr μ with
    | some (.exit id', fr', μ') => bif Nat.beq id' id then some (.normal, fr', μ') else some (.exit id', fr', μ')
    | r => r
  | .scope a => match rc a fr μ with
    | some (.goto _, _, _) => none
    | r => r
  | .loop a => loopA rc a mostRounds fr μ
  | .exit id => some (.exit id, fr, μ)
  | .ret => some (.ret, fr, μ)
  | _ => none

def codeA (P : Program) (E : Env) (S : FuncId → Option (List Value → Hp → Option (Ending × Hp))) : Nat → CodeF
  | 0 => fun _ _ _ => none
  | n + 1 => codeStep P E S (codeA P E S n)

def run (P : Program) (E : Env) (S : FuncId → Option (List Value → Hp → Option (Ending × Hp))) (n : Nat) : CallF := callA E S (codeA P E S n)

end Go.Abs
