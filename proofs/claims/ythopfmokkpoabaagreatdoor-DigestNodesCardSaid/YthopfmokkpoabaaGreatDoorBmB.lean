/-
  The abstract machine: a computable interpreter over abstract heaps, and that it is right of the model's runs: part B.
-/
import Derived.Test.YthopfmokkpoabaaGreatDoorBmA
import Derived.LoopN
import Derived.Scope
set_option linter.unusedVariables false
set_option linter.unusedSimpArgs false
set_option linter.unusedSectionVars false
section
namespace Go.Abs
section
variable {P : Program} {E : Env} {pr : Prot} {w0 : World} {ng : Nat} {ι : Ren} {μ : Hp} {w : World} (hE : EnvOk P E)
include hE
theorem run_append_new {t u ty e : TypeId} {i : TypeInfo} {ud : TypeDesc} {z : Value} (ht : E.und t = some (.slice e)) (hu : E.und u = some ud) (hni : isInt ud = false) (hi : E.info e = some i) (hz : zeroA E e = some z)
  (base : Option Addr) (len cap n : Nat) (x : Value) (olds news : Array Value) (hn : (Builtin.lenOf x).run P w = .ok n w)
  (ho : (Builtin.firstCells i.size len (.slice base len cap)).run P w.drew = .ok olds w.drew) (hx : (Builtin.firstCells i.size n x).run P w.drew = .ok news w.drew)
  (hg : cap < len + n) (h62 : len + n ≤ 4611686018427387904) (hb : (len + n) * i.bytes ≤ 140737488355328) :
  (Builtin.append_ #[t,u] ty #[.slice base len cap,x]).run P w =
   .ok (.slice (some ⟨w.heap.size,0,none⟩) (len + n) (grownCap w (len + n) cap e)) (w.drew.alloc (.cells (olds ++ news ++ Builtin.zeroCells z.cells (grownCap w (len + n) cap e - (len + n))) e)):=by
 have hr : ¬ (len + n ≤ cap):=by omega
 have hm : ¬ (((len + n : Nat) : Int) > IntKind.i64.max∧i.bytes = 0):=by
  rw [IntKind.max_i64];omega
 have hfit:=growslice_fits (bytes:=i.bytes) hg hb
 have hfit' : ¬ (Builtin.nextslicecap (len + n) cap * i.bytes > 2 ^ 48):=by
  rw [show (2 : Nat) ^ 48 = 281474976710656 by decide];omega
 have hs : E.size e = some i.size:=by simp [Env.size,hi]
 unfold Builtin.append_
 simp only [List.getElem?_toArray,List.getElem?_cons_zero,List.getElem?_cons_succ,Sem.run_bind,hE.run_und ht,hE.run_und hu,Result.andThen_ok,hE.run_size hs,Sem.run_pure]
 cases ud <;> simp only [isInt,reduceCtorEq] at hni <;>
  simp only [Bool.false_eq_true,if_false,hn,Result.andThen_ok,if_neg hr,Bool.not_false,if_true,Sem.run_bind,Sem.run_pure,Sem.run_ite,hE.run_info hi,run_choose,Question.forced,run_askRoom,ho,hx,(hE.run_zero hz _).1,newRow,run_newObj,World.drew_eq,World.alloc_eq,World.size_drew,false_or,if_neg hm,if_neg hfit'] <;> rfl
theorem run_append_in {t u ty e : TypeId} {s : Nat} {ud : TypeDesc} (ht : E.und t = some (.slice e)) (hu : E.und u = some ud) (hni : isInt ud = false) (hs : E.size e = some s)
  (a : Addr) (len cap n : Nat) (x : Value) (news : Array Value) {w' : World} (hn : (Builtin.lenOf x).run P w = .ok n w) (hx : (Builtin.firstCells s n x).run P w = .ok news w)
  (hr : len + n ≤ cap) (hst : (storeCells (a.add (len * s)) news.toList).run P w = .ok () w') :
  (Builtin.append_ #[t,u] ty #[.slice (some a) len cap,x]).run P w = .ok (.slice (some a) (len + n) cap) w':=by
 unfold Builtin.append_
 simp only [List.getElem?_toArray,List.getElem?_cons_zero,List.getElem?_cons_succ,Sem.run_bind,hE.run_und ht,hE.run_und hu,Result.andThen_ok,hE.run_size hs,Sem.run_pure]
 cases ud <;> simp only [isInt,reduceCtorEq] at hni <;>
  simp only [Bool.false_eq_true,if_false,hn,Result.andThen_ok,if_pos hr,Bool.not_false,if_true,Sem.run_bind,Sem.run_pure,Sem.run_ite,hx,hst]
theorem run_append_nil0 {t u ty e : TypeId} {s : Nat} {ud : TypeDesc} (ht : E.und t = some (.slice e)) (hu : E.und u = some ud) (hni : isInt ud = false) (hs : E.size e = some s)
  (x : Value) (news : Array Value) (hn : (Builtin.lenOf x).run P w = .ok 0 w) (hx : (Builtin.firstCells s 0 x).run P w = .ok news w) :
  (Builtin.append_ #[t,u] ty #[.slice none 0 0,x]).run P w = .ok (.slice none 0 0) w:=by
 unfold Builtin.append_
 simp only [List.getElem?_toArray,List.getElem?_cons_zero,List.getElem?_cons_succ,Sem.run_bind,hE.run_und ht,hE.run_und hu,Result.andThen_ok,hE.run_size hs,Sem.run_pure]
 cases ud <;> simp only [isInt,reduceCtorEq] at hni <;>
  simp only [Bool.false_eq_true,if_false,hn,Result.andThen_ok,Nat.add_zero,Nat.le_refl,Bool.not_false,if_true,Sem.run_bind,Sem.run_pure,Sem.run_ite,hx]
omit hE in
theorem caps (n : Nat) : capOf (2 * n + 1) = n∧capOpen (2 * n + 1) = true∧capOf (2 * n) = n∧capOpen (2 * n) = false:=by
 unfold capOf capOpen
 refine ⟨by omega,?_,by omega,beq_no (by omega)⟩
 rw [show (2 * n + 1) % 2 = 1 by omega]
 rfl
omit hE in
theorem first_get {s n : Nat} {a : Addr} {l c : Nat} {xs : List Value} (h : firstA s n (.slice (some a) l c) μ = some xs) {i : Nat} {v : Value} (hi : xs[i]? = some v) :
  ∃ vs,μ.cells a.block = some vs∧vs[a.off + i]? = some v:=by
 unfold firstA at h
 simp only at h
 split at h
 ·simp at h;subst h;simp at hi
 ·split at h
  ·rename_i k _ _ vs hsp hc
   cases hl : Nat.beq ((vs.drop a.off).take ((k + 1) * s)).length ((k + 1) * s) with
   | false => simp only [hl,cond_false] at h;cases h
   | true =>
    simp only [hl,cond_true,Option.some.injEq] at h
    subst h
    rw [List.getElem?_take] at hi
    split at hi
    ·rw [List.getElem?_drop] at hi;exact ⟨vs,hc,hi⟩
    ·cases hi
  ·cases h
theorem grow_ok (hS : Sim pr w0 ng ι μ w) {t u ty e : TypeId} {ud : TypeDesc} (ht : E.und t = some (.slice e)) (hu : E.und u = some ud) (hni : isInt ud = false)
  {base : Option Addr} {len cap n s : Nat} {x v : Value} {old new : List Value} {μ' : Hp} (hs : E.size e = some s) (hn : lenA x μ = some n) (hnew : firstA s n x μ = some new) (hbx : Bd μ.next x)
  (hbase : match base with | none => len = 0∧cap = 0∧old = []∧0 < n | some a => firstA s len (.slice (some a) len cap) μ = some old∧a.block < μ.next∧capOf cap < len + n)
  (h : growA E e base len cap n old new μ = some (v,μ')) :
  Val P pr w0 ng ι μ w (Builtin.append_ #[t,u] ty #[conc ι (.slice base len cap),conc ι x]) v μ':=by
 unfold growA at h
 cases hi : E.info e with
 | none => simp [hi] at h
 | some i =>
  simp only [hi] at h
  have his : i.size = s:=by simp [Env.size,hi] at hs;exact hs
  subst his
  cases hck : (Nat.ble ((len + n) * i.bytes) 140737488355328 && Nat.blt 0 i.size && Nat.ble (len + n) 4611686018427387904 && Nat.beq old.length (len * i.size) && Nat.beq new.length (n * i.size) && new.all one && (zeroA E e).any fun z => Nat.beq z.cells.size i.size) with
  | false => simp [hck] at h
  | true =>
   simp only [hck,cond_true] at h
   simp only [Bool.and_eq_true,Option.any_eq_true] at hck
   obtain ⟨⟨⟨⟨⟨⟨g1,g2⟩,g3⟩,g4⟩,g5⟩,g6⟩,z,hz,g7⟩:=hck
   have g1:=Nat.le_of_ble_eq_true g1
   have g3:=Nat.le_of_ble_eq_true g3
   have g4:=beq_yes g4
   have g5:=beq_yes g5
   have g7:=beq_yes g7
   cases hop : openA base cap i.size μ with
   | none => simp [hop] at h
   | some μ1 =>
    simp only [hop] at h
    cases hnw : μ1.new (.cells (old ++ new) i.size) with
    | none => simp [hnw] at h
    | some q =>
     obtain ⟨k,μ2⟩:=q
     simp only [hnw,Option.some.injEq,Prod.mk.injEq] at h
     obtain ⟨rfl,rfl⟩:=h
     have hlen:=len_ok (P:=P) hS hn
     have hfn:=fun w' hw => first_ok (P:=P) (w':=w') hS hnew hbx hw
     -- a new row
     have grown : ∀ (capR : Nat) (hcap : capR < len + n),(conc ι (.slice base len cap) = .slice (base.map ι.addr) len capR) → (Builtin.firstCells i.size len (.slice (base.map ι.addr) len capR)).run P w.drew = .ok (old.map (conc ι)).toArray w.drew →
       Sim pr w0 ng ι μ1 w → μ1.next = μ.next → (∀ y ∈ old,Bd μ.next y) →
       Val P pr w0 ng ι μ w (Builtin.append_ #[t,u] ty #[conc ι (.slice base len cap),conc ι x]) (.slice (some ⟨k,0,none⟩) (len + n) (2 * (len + n) + 1)) μ2:=by
      intro capR hcap hcv ho hS1 hnx1 hbo
      have hx:=(hfn w.drew (fun _ => rfl)).1
      have hrun:=run_append_new hE (ty:=ty) ht hu hni hi hz (base.map ι.addr) len capR n (conc ι x) _ _ hlen ho hx hcap g3 g1
      have hge : len + n ≤ grownCap w (len + n) capR e:=grownCap_ge w _ _ _
      obtain ⟨hS',hxt,hnx,rfl⟩:=newCells_ok hS1.drew hnw (fun y hy => by
       rw [hnx1]
       rcases List.mem_append.1 hy with hy | hy
       ·exact hbo y hy
       ·exact (hfn w (fun _ => rfl)).2 y hy) e (Builtin.zeroCells z.cells (grownCap w (len + n) capR e - (len + n))).toList (grownCap w (len + n) capR e - (len + n)) (by
       simp only [Array.length_toList,size_zeroCells,g7];exact Nat.le_refl _)
      refine ⟨_,_,?_,hS',hxt.mono (by omega),by omega,by simp [hnx]⟩
      rw [hcv,hrun]
      obtain ⟨c1,c2,_,_⟩:=caps (len + n)
      simp only [conc_slice,Ren.addr,Ren.cap,Ren.upd,if_true,Nat.zero_add,c1,c2,cond_true,World.size_drew]
      rw [show len + n + (grownCap w (len + n) capR e - (len + n)) = grownCap w (len + n) capR e by omega]
      congr 3
      simp [List.map_append]
     cases base with
     | none =>
      simp [openA] at hop
      subst hop
      obtain ⟨rfl,rfl,rfl,hpos⟩:=hbase
      exact grown 0 (by omega) (by simp) (by simp [Builtin.firstCells]) hS rfl (by simp)
     | some a =>
      obtain ⟨hold,hab,hcl⟩:=hbase
      have hfo:=fun w' hw => first_ok (P:=P) (w':=w') hS hold (by simpa using hab) hw
      simp only [openA] at hop
      cases hco : capOpen cap with
      | false =>
       simp [hco] at hop
       subst hop
       refine grown (capOf cap) hcl (by simp [Ren.cap,hco]) ?_ hS rfl (hfo w (fun _ => rfl)).2
       have:=(hfo w.drew (fun _ => rfl)).1
       simpa [Ren.cap,hco] using this
      | true =>
       simp only [hco] at hop
       obtain ⟨b,o,sp⟩:=a
       (try simp only at hop);(try simp only at hab);(try simp only at hold)
       cases sp with
       | some _ => simp at hop
       | none =>
        (try simp only at hop)
        cases hg : μ.get b with
        | none => simp [hg] at hop
        | some ob =>
         cases ob with
         | cells vs es =>
          simp only [hg] at hop
          cases hcc : (Nat.beq es i.size && Nat.beq (o + capOf cap * i.size) vs.length) with
          | false => simp [hcc] at hop
          | true =>
           simp only [hcc,cond_true,Option.some.injEq] at hop
           subst hop
           simp only [Bool.and_eq_true] at hcc
           have hes:=beq_yes hcc.1
           have hvl:=beq_yes hcc.2
           subst hes
           have hkill:=hS.kill hg
           by_cases hroom : len + n ≤ capOf cap + ι.ext b
           ·-- in place
            have hobj:=hS.obj b _ hg
            have hm:=Nat.mul_le_mul_right i.size hroom
            rw [Nat.add_mul,Nat.add_mul] at hm
            obtain ⟨w',hr,hnc,hoc,hso,hf,hblk,hsz,e1,e2,e3,e4⟩:=run_storeCells (P:=P) (ι.loc b).1 ((ι.loc b).2 + o + len * i.size) (new.map (conc ι)) 0 w (by
              intro j hj
              rw [List.length_map,g5] at hj
              have:=hobj.2 (o + len * i.size + j) (by omega)
              rw [show (ι.loc b).2 + o + len * i.size + 0 + j = (ι.loc b).2 + (o + len * i.size + j) by omega]
              exact this) (by
              intro y hy
              obtain ⟨y',hy',rfl⟩:=List.mem_map.1 hy
              exact conc_one ι y' (List.all_eq_true.1 g6 y' hy'))
            have hx:=hfn w (fun _ => rfl)
            have hrun:=run_append_in hE (ty:=ty) ht hu hni hs (ι.addr ⟨b,o,none⟩) len (capOf cap + ι.ext b) n (conc ι x) _ hlen hx.1 hroom (w':=w') (by
             simp only [Ren.addr,addr_add]
             simpa using hr)
            have hk:=(Hp.new_eq hnw).1
            have hk' : k = μ.next:=hk
            subst hk'
            obtain ⟨hS',hxt,hnx,_⟩:=hkill.newAt (l:=((ι.loc b).1,(ι.loc b).2 + o)) (e:=capOf cap + ι.ext b - (len + n)) (w':=w') hnw e1 e2 e3 (by rw [hsz];exact Nat.le_refl _)
             (fun kk _ hne => hblk kk (hne rfl)) (fun _ => by rw [hsz];exact hS.blk b _ hg rfl) (fun _ hlt => hS.free b _ hg rfl hlt)
             (fun _ m o' hm hlv => by
              by_cases hmb : m = b
              ·subst hmb
               rw [get_put_same _ (Nat.lt_of_lt_of_le (hS.lt m _ hg) hS.lim)] at hm
               cases hm;cases hlv
              ·rw [get_put_other _ (Ne.symm hmb)] at hm
               exact hS.inj m b o' _ hm hg hlv rfl hmb) (fun _ hf => hS.ffree b _ hg rfl hf) ⟨by
              intro j y hy
              simp only [Ren.upd,Ren.updQ,if_true]
              rw [← Ren.upd]
              by_cases hj : j < old.length
              ·rw [List.getElem?_append_left hj] at hy
               obtain ⟨vs',hc',hv'⟩:=first_get hold hy
               have hcell:=hS.cell hc' hv'
               simp only at hcell hv'
               rw [Nat.add_assoc,hoc _ (.inl (by omega)),conc_ext (Ren.upd_ext _ _ _ _) y hcell.2]
               exact ⟨hcell.1,Bd.mono (by rw [(Hp.new_eq hnw).2.2];simp only [Hp.put];omega) y hcell.2⟩
              ·rw [List.getElem?_append_right (by omega)] at hy
               have hy' : (new.map (conc ι))[j - old.length]? = some (conc ι y):=by simp [hy]
               have hby:=hx.2 y (List.mem_of_getElem? hy)
               have:=hnc _ _ hy'
               rw [show (ι.loc b).2 + o + len * i.size + 0 + (j - old.length) = (ι.loc b).2 + o + j by omega] at this
               rw [conc_ext (Ren.upd_ext _ _ _ _) y hby]
               exact ⟨this,Bd.mono (by rw [(Hp.new_eq hnw).2.2];simp only [Hp.put];omega) y hby⟩,by
              intro j hj
              simp only [Ren.upd,Ren.updQ,if_true,List.length_append,g4,g5,Nat.sub_mul,Nat.add_mul] at hj ⊢
              rw [hso,hf,Nat.add_assoc]
              exact hobj.2 (o + j) (by omega)⟩
            refine ⟨_,w',?_,hS',hxt.mono (by simp [Hp.put]),by rw [hnx];simp [Hp.put],by simp [hnx,Hp.put]⟩
            obtain ⟨c1,c2,_,_⟩:=caps (len + n)
            simp only [conc_slice,Ren.cap,hco,cond_true,c1,c2] at hrun ⊢
            rw [hrun]
            simp only [Ren.addr,Ren.upd,Hp.put,if_true,Nat.add_zero]
            congr 2
            omega
           ·refine grown (capOf cap + ι.ext b) (by omega) (by simp [Ren.cap,hco]) ?_ hkill rfl (hfo w (fun _ => rfl)).2
            have:=(hfo w.drew (fun _ => rfl)).1
            simpa [Ren.cap,hco] using this
         | _ => simp [hg] at hop
end
end Go.Abs
end
section
namespace Go.Abs
section
variable {P : Program} {E : Env} {pr : Prot} {w0 : World} {ng : Nat} {ι : Ren} {μ : Hp} {w : World} (hE : EnvOk P E)
include hE
theorem append_ok (hS : Sim pr w0 ng ι μ w) {ts : List TypeId} {args : List Value} {ty : TypeId} {v : Value} {μ' : Hp} (h : appendA E ts args μ = some (v,μ')) (hb : ∀ x ∈ args,Bd μ.next x) :
  Val P pr w0 ng ι μ w (Builtin.append_ ⟨ts⟩ ty ⟨args.map (conc ι)⟩) v μ':=by
 unfold appendA at h
 split at h
 ·rename_i t u base len cap x
  have hbx:=hb x (by simp)
  have hbs:=hb (.slice base len cap) (by simp)
  split at h
  ·rename_i e ud hu1 hu2
   cases hii : isInt ud with
   | true => simp [hii] at h
   | false =>
   simp only [hii,cond_false] at h
   have hni:=hii
   unfold appendB at h
   cases hs : E.size e with
   | none => simp [hs] at h
   | some s =>
    cases hn : lenA x μ with
    | none => simp [hs,hn] at h
    | some n =>
     simp only [hs,hn] at h
     cases hf : firstA s n x μ with
     | none => simp [hf] at h
     | some new =>
      simp only [hf] at h
      have hlen:=len_ok (P:=P) hS hn
      have hx:=first_ok (P:=P) (w':=w) hS hf hbx (fun _ => rfl)
      simp only [List.map_cons,List.map_nil]
      cases base with
      | none =>
       simp only at h
       cases h0 : (Nat.beq len 0 && Nat.beq cap 0) with
       | false => simp [h0] at h
       | true =>
        simp only [h0,cond_true] at h
        simp only [Bool.and_eq_true] at h0
        obtain rfl:=beq_yes h0.1
        obtain rfl:=beq_yes h0.2
        cases hn0 : Nat.beq n 0 with
        | true =>
         simp [hn0] at h
         obtain ⟨rfl,rfl⟩:=h
         obtain rfl:=beq_yes hn0
         exact Val.same hS (by simpa using run_append_nil0 hE (ty:=ty) hu1 hu2 hni hs (conc ι x) _ hlen hx.1) (by simp)
        | false =>
         simp only [hn0,cond_false] at h
         have:=Nat.ne_of_beq_eq_false hn0
         exact grow_ok hE hS hu1 hu2 hni hs hn hf hbx (base:=none) ⟨rfl,rfl,rfl,by omega⟩ h
      | some a =>
       simp only at h
       cases hle : Nat.ble (len + n) (capOf cap) with
       | true =>
        simp only [hle] at h
        have hle':=Nat.le_of_ble_eq_true hle
        cases hn0 : Nat.beq n 0 with
        | true =>
         simp [hn0] at h
         obtain ⟨rfl,rfl⟩:=h
         obtain rfl:=beq_yes hn0
         have hnil:=first_zero hf
         subst hnil
         refine Val.same hS ?_ hbs
         have:=run_append_in hE (ty:=ty) (w:=w) (w':=w) hu1 hu2 hni hs (ι.addr a) len (ι.cap a.block cap) 0 (conc ι x) _ hlen hx.1 (by simp only [Ren.cap];omega) (by simp [storeCells])
         simpa using this
        | false =>
         simp only [hn0,cond_false] at h
         cases hst : storeCellsA (a.add (len * s)) new μ with
         | none => simp [hst] at h
         | some μ1 =>
          simp only [hst,Option.some.injEq,Prod.mk.injEq] at h
          obtain ⟨rfl,rfl⟩:=h
          obtain ⟨w',hr,hS',hnx⟩:=storeCells_ok (P:=P) hS hst hx.2
          rw [addr_add_conc] at hr
          refine ⟨ι,w',?_,hS',Ext.refl _ _,by rw [hnx];exact Nat.le_refl _,by rw [hnx];simpa using hbs⟩
          have:=run_append_in hE (ty:=ty) (w:=w) (w':=w') hu1 hu2 hni hs (ι.addr a) len (ι.cap a.block cap) n (conc ι x) _ hlen hx.1 (by simp only [Ren.cap];omega) hr
          simpa using this
       | false =>
        simp only [hle] at h
        cases hfo : firstA s len (.slice (some a) len cap) μ with
        | none => simp [hfo] at h
        | some old =>
         simp only [hfo] at h
         have hlt : capOf cap < len + n:=by
          rcases Nat.lt_or_ge (capOf cap) (len + n) with h' | h'
          ·exact h'
          ·rw [Nat.ble_eq_true_of_le h'] at hle;cases hle
         exact grow_ok hE hS hu1 hu2 hni hs hn hf hbx (base:=some a) ⟨hfo,by simpa using hbs,hlt⟩ h
  ·cases h
 ·cases h
theorem copy_ok (hS : Sim pr w0 ng ι μ w) {ts : List TypeId} {args : List Value} {ty : TypeId} {v : Value} {μ' : Hp} (h : copyA E ts args μ = some (v,μ')) (hb : ∀ x ∈ args,Bd μ.next x) :
  Val P pr w0 ng ι μ w (Builtin.copy_ ⟨ts⟩ ty ⟨args.map (conc ι)⟩) v μ':=by
 unfold copyA at h
 split at h
 ·rename_i t u base len cap x
  have hbx:=hb x (by simp)
  split at h
  ·rename_i e hu
   cases hs : E.size e with
   | none => simp [hs] at h
   | some s =>
    cases hn : lenA x μ with
    | none => simp [hs,hn] at h
    | some m =>
     simp only [hs,hn] at h
     cases hf : firstA s (Nat.min m len) x μ with
     | none => simp [hf] at h
     | some new =>
      simp only [hf] at h
      have hlen:=len_ok (P:=P) hS hn
      have hx:=first_ok (P:=P) (w':=w) hS hf hbx (fun _ => rfl)
      have pre : ∀ (bs : Option Addr) (c : Nat) (w' : World),(match bs with | some a => (storeCells a (new.map (conc ι))).run P w = .ok () w' | none => w' = w) →
        (Builtin.copy_ #[t,u] ty #[.slice bs len c,conc ι x]).run P w = .ok (goInt (Nat.min m len)) w':=by
       intro bs c w' hst
       unfold Builtin.copy_
       simp only [List.getElem?_toArray,List.getElem?_cons_zero,List.getElem?_cons_succ,Sem.run_bind,hE.run_und hu,Result.andThen_ok,hlen,hE.run_size hs,hx.1]
       cases bs with
       | none => simp only at hst;subst hst;simp
       | some a => simp only at hst;simp [hst]
      simp only [List.map_cons,List.map_nil]
      cases base with
      | none =>
       simp at h
       obtain ⟨rfl,rfl⟩:=h
       exact Val.same hS (by simpa [goInt] using pre none cap w rfl) (by simp [goInt])
      | some a =>
       simp only at h
       cases new with
       | nil =>
        simp at h
        obtain ⟨rfl,rfl⟩:=h
        exact Val.same hS (by simpa [goInt] using pre (some (ι.addr a)) (ι.cap a.block cap) w (by simp [storeCells])) (by simp [goInt])
       | cons y ys =>
        simp only at h
        cases hst : storeCellsA a (y :: ys) μ with
        | none => simp [hst] at h
        | some μ1 =>
         simp only [hst,Option.some.injEq,Prod.mk.injEq] at h
         obtain ⟨rfl,rfl⟩:=h
         obtain ⟨w',hr,hS',hnx⟩:=storeCells_ok (P:=P) hS hst hx.2
         exact ⟨ι,w',by simpa [goInt] using pre (some (ι.addr a)) (ι.cap a.block cap) w' hr,hS',Ext.refl _ _,by rw [hnx];exact Nat.le_refl _,by simp [goInt]⟩
  ·cases h
 ·cases h
theorem lenB_ok (hS : Sim pr w0 ng ι μ w) {ts : List TypeId} {args : List Value} {ty : TypeId} {v : Value} (h : lenBA E ts args μ = some v) :
  (Builtin.len_ ⟨ts⟩ ty ⟨args.map (conc ι)⟩).run P w = .ok (conc ι v) w∧Bd μ.next v:=by
 unfold lenBA at h
 split at h
 ·rename_i t x
  simp only [List.map_cons,List.map_nil]
  split at h
  ·rename_i s hu;simp at h;subst h;simp [Builtin.len_,hE.run_und hu,goInt]
  ·rename_i n _ hu
   simp at h;subst h
   refine ⟨?_,by simp [goInt]⟩
   simp only [Builtin.len_,List.getElem?_toArray,List.getElem?_cons_zero,Sem.run_bind,hE.run_und hu,Result.andThen_ok,goInt,conc_int]
   simp
  ·rename_i a n c hu;simp at h;subst h;cases a <;> simp [Builtin.len_,hE.run_und hu,goInt]
  ·rename_i k hu
   unfold wordAt at h
   split at h
   ·rename_i len r hg
    simp at h;subst h
    obtain ⟨base,c,h1,h2,h3⟩:=hS.obj k _ hg
    have hc : conc ι (.chan (some k)) = .slice base len c:=by rw [conc];exact Ren.chan_some h1 rfl
    rw [hc]
    cases base <;> simp [Builtin.len_,hE.run_und hu,goInt]
   ·cases h
  ·rename_i hu;simp at h;subst h;simp [Builtin.len_,hE.run_und hu,goInt]
  ·rename_i r hu
   split at h
   ·rename_i es c hg
    simp at h;subst h
    have hobj:=(hS.obj r _ hg).2.1
    simp [Builtin.len_,hE.run_und hu,goInt,getObj,Sem.run,hobj]
   ·cases h
  ·cases h
 ·cases h
theorem capB_ok {ts : List TypeId} {args : List Value} {ty : TypeId} {v : Value} {N : Nat} (h : capBA E ts args = some v) (w : World) :
  (Builtin.cap_ ⟨ts⟩ ty ⟨args.map (conc ι)⟩).run P w = .ok (conc ι v) w∧Bd N v:=by
 unfold capBA at h
 split at h
 ·rename_i t x
  simp only [List.map_cons,List.map_nil]
  split at h
  ·rename_i n hu
   simp at h;subst h
   refine ⟨?_,by simp [goInt]⟩
   simp only [Builtin.cap_,List.getElem?_toArray,List.getElem?_cons_zero,Sem.run_bind,hE.run_und hu,Result.andThen_ok,goInt,conc_int]
   simp
  ·rename_i a l c hu
   cases ho : capOpen c with
   | true => simp [ho] at h
   | false => simp [ho] at h;subst h;simp [Builtin.cap_,hE.run_und hu,goInt,Ren.cap,ho]
  ·rename_i hu
   simp at h;subst h;simp [Builtin.cap_,hE.run_und hu,goInt]
  ·cases h
 ·cases h
end
end Go.Abs
end
section
namespace Go.Abs
section
variable {P : Program} {E : Env} {pr : Prot} {w0 : World} {ng : Nat} {ι : Ren} {μ : Hp} {w : World} (hE : EnvOk P E)
def Found (ι : Ren) (es : List MapEntry) (r : Option Nat) (i : Nat) (res : Option (Nat × Value)) : Prop :=
 match r with
 | none => res = none
 | some j => ∃ e,i ≤ j∧es[j - i]? = some e∧res = some (j,conc ι e.val)
theorem Found.cons {es : List MapEntry} {r : Option Nat} {i : Nat} {res : Option (Nat × Value)} (e : MapEntry) (h : Found ι es r (i + 1) res) : Found ι (e :: es) r i res:=by
 unfold Found at *
 cases r with
 | none => exact h
 | some j =>
  obtain ⟨e',h1,h2,h3⟩:=h
  refine ⟨e',by omega,?_,h3⟩
  rw [show j - i = (j - (i + 1)) + 1 by omega]
  simpa using h2
theorem sameNow_scalar {kd : TypeDesc} {a b : Value} (h : scalarKey kd = false) : Instr.sameNow kd a b = none:=by
 cases kd <;> simp [scalarKey] at h <;> rfl
theorem findA_now (kd : TypeDesc) (kt : TypeId) (k : Value) : ∀ (es : List MapEntry) (i : Nat) (r : Option Nat),(∀ e ∈ es,flat e.key = true) → (∀ e ∈ es,(Instr.sameNow kd k e.key).isSome = true) →
  findA P kd kt k es i = some r → ∃ res,Instr.findNow kd k (es.map (concE ι)) i = some res∧Found ι es r i res
 | [],i,r,_,_,h => by simp [findA] at h;subst h;exact ⟨none,rfl,rfl⟩
 | e :: es,i,r,hf,hs,h => by
  have hk:=(conc_flat ι 0 e.key (hf e (by simp))).1
  obtain ⟨b,hb⟩:=Option.isSome_iff_exists.1 (hs e (by simp))
  cases b with
  | true =>
   simp only [findA,hb,Option.some.injEq] at h
   subst h
   refine ⟨some (i,conc ι e.val),?_,e,Nat.le_refl _,by simp,rfl⟩
   simp [Instr.findNow,concE,hk,hb]
  | false =>
   simp only [findA,hb] at h
   obtain ⟨res,h1,h2⟩:=findA_now kd kt k es (i + 1) r (fun e he => hf e (by simp [he])) (fun e he => hs e (by simp [he])) h
   refine ⟨res,?_,h2.cons e⟩
   simp [Instr.findNow,concE,hk,hb,h1]
theorem findA_asking (kd : TypeDesc) (kt : TypeId) (k : Value) (hsc : scalarKey kd = false) (w : World) : ∀ (es : List MapEntry) (i : Nat) (r : Option Nat),(∀ e ∈ es,flat e.key = true) →
  findA P kd kt k es i = some r → ∃ res,(Instr.findAsking kt k (es.map (concE ι)) i).run P w = .ok res w∧Found ι es r i res
 | [],i,r,_,h => by simp [findA] at h;subst h;exact ⟨none,rfl,rfl⟩
 | e :: es,i,r,hf,h => by
  have hfe:=hf e (by simp)
  have hk:=(conc_flat ι 0 e.key hfe).1
  simp only [findA,sameNow_scalar hsc,hfe,cond_true] at h
  split at h
  ·rename_i heq
   simp at h
   subst h
   refine ⟨some (i,conc ι e.val),?_,e,Nat.le_refl _,by simp,rfl⟩
   simp [Instr.findAsking,concE,hk,pureRun_ok heq w]
  ·rename_i heq
   obtain ⟨res,h1,h2⟩:=findA_asking kd kt k hsc w es (i + 1) r (fun e he => hf e (by simp [he])) h
   refine ⟨res,?_,h2.cons e⟩
   simp [Instr.findAsking,concE,hk,pureRun_ok heq w,h1]
  ·cases h
include hE
theorem key_ok {kt : TypeId} {k : Value} {es : List MapEntry} {r : Option Nat} (h : keyA P E kt k es = some r) (w : World) :
  conc ι k = k∧(∀ e ∈ es,conc ι e.key = e.key)∧(∀ b,(Instr.checkKey b 10000 kt k).run P w = .ok () w)∧∃ res,(Instr.findKey kt k (es.map (concE ι))).run P w = .ok res w∧Found ι es r 0 res:=by
 unfold keyA at h
 cases hu : E.und kt with
 | none => simp [hu] at h
 | some kd =>
  simp only [hu] at h
  cases hc : (flat k && (es.all fun e => flat e.key) && (scalarKey kd || (isOk (pureRun P (Instr.checkKey true 10000 kt k)) && isOk (pureRun P (Instr.checkKey false 10000 kt k))))) with
  | false => simp [hc] at h
  | true =>
   simp only [hc,cond_true] at h
   simp only [Bool.and_eq_true,Bool.or_eq_true] at hc
   obtain ⟨⟨hfk,hfe⟩,hck⟩:=hc
   have hfe' : ∀ e ∈ es,flat e.key = true:=fun e he => List.all_eq_true.1 hfe e he
   have hrun:=hE.run_und hu w
   have hun:=hE.und hu
   refine ⟨(conc_flat ι 0 k hfk).1,fun e he => (conc_flat ι 0 e.key (hfe' e he)).1,?_,?_⟩
   ·intro b
    rcases hck with hsc | ⟨h1,h2⟩
    ·show (Instr.checkKey b (9999 + 1) kt k).run P w = _
     unfold Instr.checkKey
     simp only [Sem.run_bind,hrun,Result.andThen_ok]
     cases kd <;> simp [scalarKey] at hsc <;> rfl
    ·cases b
     ·cases hp : pureRun P (Instr.checkKey false 10000 kt k) with
      | ok u => exact pureRun_ok hp w
      | pan v => simp [hp,isOk] at h2
      | no => simp [hp,isOk] at h2
     ·cases hp : pureRun P (Instr.checkKey true 10000 kt k) with
      | ok u => exact pureRun_ok hp w
      | pan v => simp [hp,isOk] at h1
      | no => simp [hp,isOk] at h1
   ·cases hsc : scalarKey kd with
    | true =>
     simp only [hsc,Bool.true_and] at h
     cases hall : es.all fun e => (Instr.sameNow kd k e.key).isSome with
     | false => simp [hall] at h
     | true =>
      simp only [hall,Bool.not_true,cond_false] at h
      obtain ⟨res,h1,h2⟩:=findA_now (P:=P) (ι:=ι) kd kt k es 0 r hfe' (fun e he => List.all_eq_true.1 hall e he) h
      refine ⟨res,?_,h2⟩
      simp only [Instr.findKey,Sem.run_bind,hrun,Result.andThen_ok,h1,Sem.run_pure]
    | false =>
     simp only [hsc,Bool.false_and,cond_false] at h
     obtain ⟨res,h1,h2⟩:=findA_asking (P:=P) (ι:=ι) kd kt k hsc w es 0 r hfe' h
     refine ⟨res,?_,h2⟩
     simp only [Instr.findKey,Sem.run_bind,hrun,Result.andThen_ok]
     cases es with
     | nil =>
      simp [findA] at h
      subst h
      have : res = none:=h2
      subst this
      simp [Instr.findNow]
     | cons e es =>
      simp only [List.map_cons,Instr.findNow,sameNow_scalar hsc]
      simpa using h1
theorem zero_val {t : TypeId} {z : Value} (h : zeroA E t = some z) (ι : Ren) (N : Nat) : conc ι z = z∧Bd N z:=conc_plain ι N 3 z (hE.run_zero h default).2
theorem lookup_ok (hS : Sim pr w0 ng ι μ w) {t : TypeId} {x k v : Value} {ok : Bool} (h : lookupA P E t x k ok μ = some v) :
  (Instr.lookup t (conc ι x) (conc ι k) ok).run P w = .ok (conc ι v) w∧Bd μ.next v:=by
 unfold lookupA at h
 split at h
 ·rename_i kt et hu
  cases hen : entriesA x μ with
  | none => simp [hen] at h
  | some es =>
   simp only [hen] at h
   cases hk : keyA P E kt k es with
   | none => simp [hk] at h
   | some r =>
    cases hz : zeroA E et with
    | none => cases r <;> simp [hk,hz] at h
    | some z =>
     obtain ⟨c1,c2,c3,res,c4,c5⟩:=key_ok (ι:=ι) hE hk w
     obtain ⟨z1,z2⟩:=zero_val hE hz ι μ.next
     have hbv : ∀ e ∈ es,Bd μ.next e.val:=by
      intro e he
      unfold entriesA at hen
      split at hen
      ·simp at hen;subst hen;simp at he
      ·rename_i rr
       split at hen
       ·rename_i es' c hg
        simp at hen;subst hen
        exact ((hS.obj rr _ hg).2.2 e he).2
       ·cases hen
      ·cases hen
     have hsrc : (x = .map none∧es = []) ∨ ∃ rr c,x = .map (some rr)∧w.heap[(ι.loc rr).1]? = some (.map (es.map (concE ι)).toArray c):=by
      unfold entriesA at hen
      split at hen
      ·simp at hen;exact .inl ⟨rfl,hen⟩
      ·rename_i rr
       split at hen
       ·rename_i es' c hg
        simp at hen;subst hen
        exact .inr ⟨rr,c,rfl,(hS.obj rr _ hg).2.1⟩
       ·cases hen
      ·cases hen
     have hrun : ∀ val okk,(match res with | some (_,v) => (v,true) | none => (z,false)) = (val,okk) → (Instr.lookup t (conc ι x) (conc ι k) ok).run P w = .ok (if ok then .tuple #[val,.bool okk] else val) w:=by
      intro val okk hres
      unfold Instr.lookup
      simp only [Sem.run_bind,hE.run_und hu,Result.andThen_ok]
      rw [c1]
      rcases hsrc with ⟨rfl,rfl⟩ | ⟨rr,c,rfl,hob⟩
      ·simp only [List.map_nil] at c4
       simp only [conc_nilmap,Sem.run_bind,Sem.run_pure,Result.andThen_ok,c3,c4]
       cases res with
       | none => simp at hres;obtain ⟨rfl,rfl⟩:=hres;simp [(hE.run_zero hz _).1]
       | some q => obtain ⟨j,vv⟩:=q;simp at hres;obtain ⟨rfl,rfl⟩:=hres;simp
      ·simp only [conc_map,Sem.run_bind,getObj,Sem.run,hob,Sem.run_pure,Result.andThen_ok,c3,c4]
       cases res with
       | none => simp at hres;obtain ⟨rfl,rfl⟩:=hres;simp [(hE.run_zero hz _).1]
       | some q => obtain ⟨j,vv⟩:=q;simp at hres;obtain ⟨rfl,rfl⟩:=hres;simp
     cases r with
     | none =>
      simp only [hk,hz,Option.some.injEq] at h
      have : res = none:=c5
      subst this
      have:=hrun z false rfl
      subst h
      cases ok with
      | true => simp only [cond_true,if_true] at this ⊢;refine ⟨by rw [this];simp [z1],by simp [z2]⟩
      | false => simp only [cond_false] at this ⊢;refine ⟨by rw [this];simp [z1],z2⟩
     | some j =>
      simp only [hk,hz] at h
      obtain ⟨e,_,he,rfl⟩:=c5
      simp only [Nat.sub_zero] at he
      simp only [he,Option.some.injEq] at h
      have:=hrun (conc ι e.val) true rfl
      have hb:=hbv e (List.mem_of_getElem? he)
      subst h
      cases ok with
      | true => simp only [cond_true,if_true] at this ⊢;refine ⟨by rw [this];simp,by simp [hb]⟩
      | false => simp only [cond_false] at this ⊢;refine ⟨by rw [this];simp,hb⟩
 ·cases h
omit hE in
theorem setEntry_conc (ι : Ren) : ∀ (es : List MapEntry) (i : Nat) (k v : Value) (e : MapEntry),es[i]? = some e →
  ((es.map (concE ι)).toArray.modify i fun x => { x with key:=conc ι k,val:=conc ι v }) = ((setEntry es i k v).map (concE ι)).toArray:=by
 intro es i k v e h
 apply Array.ext'
 rw [Array.toList_modify]
 simp only
 clear h
 induction es generalizing i with
 | nil => cases i <;> simp [setEntry]
 | cons x xs ih =>
  cases i with
  | zero => simp [setEntry,concE]
  | succ i => simp [setEntry,ih i]
omit hE in
theorem eraseIdx_map' {α β : Type} (f : α → β) : ∀ (l : List α) (i : Nat),(l.map f).eraseIdx i = (l.eraseIdx i).map f
 | [],i => by simp
 | x :: l,0 => by simp
 | x :: l,i + 1 => by simp [eraseIdx_map' f l i]
omit hE in
theorem upd_heap (O : Obj) (n e : Nat) : (w.alloc O).heap[((ι.upd n (w.heap.size,0) e).loc n).1]? = some O:=by
 simp only [Ren.upd,Ren.updQ,if_true]
 exact heap_alloc_new w O
omit hE in
theorem setEntry_mem : ∀ {es : List MapEntry} {i : Nat} {k v : Value} {x : MapEntry},x ∈ setEntry es i k v → x ∈ es ∨ (x.key = k∧x.val = v)
 | [],i,k,v,x,h => by cases i <;> simp [setEntry] at h
 | e :: es,0,k,v,x,h => by
  simp only [setEntry,List.mem_cons] at h
  rcases h with rfl | h
  ·exact .inr ⟨rfl,rfl⟩
  ·exact .inl (by simp [h])
 | e :: es,i + 1,k,v,x,h => by
  simp only [setEntry,List.mem_cons] at h
  rcases h with rfl | h
  ·exact .inl (by simp)
  ·rcases setEntry_mem h with h | h
   ·exact .inl (by simp [h])
   ·exact .inr h
omit hE in
theorem putMap_ok (hS : Sim pr w0 ng ι μ w) {r : Nat} {es es' : List MapEntry} {c c' : Nat} (hg : μ.get r = some (.map es c)) (hb : ∀ e ∈ es',Bd μ.next e.key∧Bd μ.next e.val) :
  ∃ w',(setObj (ι.loc r).1 (.map (es'.map (concE ι)).toArray c')).run P w = .ok () w'∧Sim pr w0 ng ι (μ.put r (.map es' c')) w':=by
 have hobj:=hS.obj r _ hg
 have hlt:=hS.blk r _ hg rfl
 refine ⟨{ w with heap:=w.heap.setIfInBounds (ι.loc r).1 (.map (es'.map (concE ι)).toArray c') },by simp [setObj,Sem.run,hobj.2.1],?_⟩
 refine hS.turn hg rfl rfl rfl rfl (by simp) (fun k hk => by simp [Array.getElem?_setIfInBounds_ne (Ne.symm hk)]) ⟨hobj.1,by simp [hlt],hb⟩
theorem update_ok (hS : Sim pr w0 ng ι μ w) {t : TypeId} {x k v : Value} {μ' : Hp} (h : updateA P E t x k v μ = some μ') (hbk : Bd μ.next k) (hbv : Bd μ.next v) :
  Unt P pr w0 ng ι μ w (Instr.mapUpdate t (conc ι x) (conc ι k) (conc ι v)) μ':=by
 unfold updateA at h
 split at h
 ·rename_i kt et r hu
  split at h
  ·rename_i es clock hg
   have hobj:=hS.obj r _ hg
   cases hk : keyA P E kt k es with
   | none => simp [hk] at h
   | some q =>
    obtain ⟨c1,c2,c3,res,c4,c5⟩:=key_ok (ι:=ι) hE hk w
    cases q with
    | none =>
     simp only [hk,Option.some.injEq] at h
     subst h
     have : res = none:=c5
     subst this
     obtain ⟨w',h1,h2⟩:=putMap_ok (P:=P) (es':=es ++ [{ key:=k,val:=v,born:=clock }]) (c':=clock + 1) hS hg (fun e he => by
      rcases List.mem_append.1 he with he | he
      ·exact hobj.2.2 e he
      ·simp at he;subst he;exact ⟨hbk,hbv⟩)
     refine ⟨ι,w',?_,h2,Ext.refl _ _,Nat.le_refl _⟩
     rw [c1]
     simp only [Instr.mapUpdate,Sem.run_bind,hE.run_und hu,Result.andThen_ok,conc_map,getObj,Sem.run,hobj.2.1,Sem.run_pure,c3,c4]
     rw [← h1]
     congr 2
     simp [concE,c1]
    | some i =>
     simp only [hk] at h
     obtain ⟨e,_,he,rfl⟩:=c5
     simp only [Nat.sub_zero] at he
     simp only [he] at h
     cases hsb : Instr.sameBits 10000 e.key k with
     | false => simp [hsb] at h
     | true =>
      simp only [hsb,cond_true,Option.some.injEq] at h
      subst h
      obtain ⟨w',h1,h2⟩:=putMap_ok (P:=P) (es':=setEntry es i k v) (c':=clock) hS hg (fun e he => by
       rcases setEntry_mem he with he | ⟨rfl,rfl⟩
       ·exact hobj.2.2 e he
       ·exact ⟨hbk,hbv⟩)
      refine ⟨ι,w',?_,h2,Ext.refl _ _,Nat.le_refl _⟩
      have hek:=c2 e (List.mem_of_getElem? he)
      have hi:=(List.getElem?_eq_some_iff.1 he).1
      have hie:=(List.getElem?_eq_some_iff.1 he).2
      rw [← setEntry_conc ι es i k v e he] at h1
      rw [c1] at h1 ⊢
      simp only [Instr.mapUpdate,Sem.run_bind,hE.run_und hu,Result.andThen_ok,conc_map,getObj,Sem.run,hobj.2.1,Sem.run_pure,c3,c4]
      have hkey : (((((es.map (concE ι)).toArray)[i]?).map (·.key)).getD k) = e.key:=by simp [he,concE,hek]
      rw [hkey]
      simp only [Instr.keyThatStays,hsb,if_true,Sem.run_pure,Result.andThen_ok]
      exact h1
  ·cases h
 ·cases h
theorem clear_ok (hS : Sim pr w0 ng ι μ w) {ts : List TypeId} {args : List Value} {ty : TypeId} {v : Value} {μ' : Hp} (h : clearA E ts args μ = some (v,μ')) :
  Val P pr w0 ng ι μ w (Builtin.clear_ ⟨ts⟩ ty ⟨args.map (conc ι)⟩) v μ':=by
 unfold clearA at h
 split at h
 ·rename_i t x
  simp only [List.map_cons,List.map_nil]
  split at h
  ·rename_i d l c hu
   simp only [Option.some.injEq,Prod.mk.injEq] at h
   obtain ⟨rfl,rfl⟩:=h
   refine Val.same hS ?_ (by simp)
   simp only [Builtin.clear_,List.getElem?_toArray,List.getElem?_cons_zero,Sem.run_bind,hE.run_und hu,Result.andThen_ok,conc_nilslice]
   simp
  ·rename_i d a c hu
   simp only [Option.some.injEq,Prod.mk.injEq] at h
   obtain ⟨rfl,rfl⟩:=h
   refine Val.same hS ?_ (by simp)
   simp only [Builtin.clear_,List.getElem?_toArray,List.getElem?_cons_zero,Sem.run_bind,hE.run_und hu,Result.andThen_ok,conc_slice]
   simp
  ·rename_i e a n c hu
   split at h
   ·rename_i row hr
    split at h
    ·rename_i μ1 hst
     simp only [Option.some.injEq,Prod.mk.injEq] at h
     obtain ⟨rfl,rfl⟩:=h
     obtain ⟨z,s,hz,hs,hzs,hrow,hbd,_⟩:=row_ok hE hr ι μ.next
     obtain ⟨w',hrun,hS',hnx⟩:=storeCells_ok (P:=P) hS hst hbd
     refine ⟨ι,w',?_,hS',Ext.refl _ _,by rw [hnx];exact Nat.le_refl _,by simp⟩
     have hzc : (Builtin.zeroCells z.cells (n + 1)).toList = row.map (conc ι):=by
      unfold Builtin.zeroCells
      rw [hzs]
      rw [hzs] at hrow
      rw [hrow]
     simp only [Builtin.clear_,List.getElem?_toArray,List.getElem?_cons_zero,Sem.run_bind,hE.run_und hu,Result.andThen_ok,conc_slice,(hE.run_zero hz w).1,hzc,hrun]
     simp
    ·cases h
   ·cases h
  ·cases h
 ·cases h
theorem delete_ok (hS : Sim pr w0 ng ι μ w) {ts : List TypeId} {args : List Value} {ty : TypeId} {v : Value} {μ' : Hp} (h : deleteA P E ts args μ = some (v,μ')) :
  Val P pr w0 ng ι μ w (Builtin.delete_ ⟨ts⟩ ty ⟨args.map (conc ι)⟩) v μ':=by
 unfold deleteA at h
 split at h
 ·rename_i t rest x k
  simp only [List.map_cons,List.map_nil]
  split at h
  ·rename_i kt et r hu
   split at h
   ·rename_i es clock hg
    have hobj:=hS.obj r _ hg
    cases hk : keyA P E kt k es with
    | none => simp [hk] at h
    | some q =>
     obtain ⟨c1,c2,c3,res,c4,c5⟩:=key_ok (ι:=ι) hE hk w
     cases q with
     | none =>
      simp only [hk,Option.some.injEq,Prod.mk.injEq] at h
      obtain ⟨rfl,rfl⟩:=h
      have : res = none:=c5
      subst this
      obtain ⟨w',h1,h2⟩:=putMap_ok (P:=P) (es':=es) (c':=clock) hS hg hobj.2.2
      refine ⟨ι,w',?_,h2,Ext.refl _ _,Nat.le_refl _,by simp⟩
      rw [c1]
      simp only [Builtin.delete_,List.getElem?_toArray,List.getElem?_cons_zero,List.getElem?_cons_succ,Sem.run_bind,hE.run_und hu,Result.andThen_ok,conc_map,getObj,Sem.run,hobj.2.1,Sem.run_pure,c3,c4]
      have h1' : (Sem.setObj (ι.loc r).1 (.map (es.map (concE ι)).toArray clock) (Sem.pure ())).run P w = .ok () w':=h1
      simp only [setObj,Sem.run_bind,h1',Result.andThen_ok]
      simp
     | some i =>
      simp only [hk,Option.some.injEq,Prod.mk.injEq] at h
      obtain ⟨rfl,rfl⟩:=h
      obtain ⟨e,_,he,rfl⟩:=c5
      simp only [Nat.sub_zero] at he
      have hi:=(List.getElem?_eq_some_iff.1 he).1
      obtain ⟨w',h1,h2⟩:=putMap_ok (P:=P) (es':=es.eraseIdx i) (c':=clock) hS hg (fun e he => hobj.2.2 e (List.mem_of_mem_eraseIdx he))
      refine ⟨ι,w',?_,h2,Ext.refl _ _,Nat.le_refl _,by simp⟩
      rw [c1]
      simp only [Builtin.delete_,List.getElem?_toArray,List.getElem?_cons_zero,List.getElem?_cons_succ,Sem.run_bind,hE.run_und hu,Result.andThen_ok,conc_map,getObj,Sem.run,hobj.2.1,Sem.run_pure,c3,c4]
      have hers : (es.map (concE ι)).toArray.eraseIdxIfInBounds i = ((es.eraseIdx i).map (concE ι)).toArray:=by
       unfold Array.eraseIdxIfInBounds
       rw [dif_pos (by simpa using hi)]
       apply Array.ext'
       simp [eraseIdx_map']
      have h1' : (Sem.setObj (ι.loc r).1 (.map ((es.map (concE ι)).toArray.eraseIdxIfInBounds i) clock) (Sem.pure ())).run P w = .ok () w':=by rw [hers];exact h1
      simp only [setObj,Sem.run_bind,h1',Result.andThen_ok]
      simp
   ·cases h
  ·rename_i kt et hu
   cases hk : keyA P E kt k [] with
   | none => simp [hk] at h
   | some q =>
    obtain ⟨c1,c2,c3,_⟩:=key_ok (ι:=ι) hE hk w
    simp only [hk,Option.some.injEq,Prod.mk.injEq] at h
    obtain ⟨rfl,rfl⟩:=h
    refine Val.same hS ?_ (by simp)
    rw [c1]
    simp only [Builtin.delete_,List.getElem?_toArray,List.getElem?_cons_zero,List.getElem?_cons_succ,Sem.run_bind,hE.run_und hu,Result.andThen_ok,conc_nilmap,c3]
    simp
  ·cases h
 ·cases h
theorem range_ok (hS : Sim pr w0 ng ι μ w) {t : TypeId} {x v : Value} {μ' : Hp} (h : rangeA E t x μ = some (v,μ')) (hb : Bd μ.next x) :
  Val P pr w0 ng ι μ w (Instr.range t (conc ι x)) v μ':=by
 unfold rangeA at h
 simp only at h
 split at h
 ·rename_i o ho
  cases hn : μ.new o with
  | none => simp [hn] at h
  | some q =>
   obtain ⟨n,μ1⟩:=q
   simp only [hn,Option.some.injEq,Prod.mk.injEq] at h
   obtain ⟨rfl,rfl⟩:=h
   obtain ⟨rfl,hlim,hμ⟩:=Hp.new_eq hn
   have hro : RoOk ι.fz ι.wb (w.heap.size,0) o:=by
    split at ho
    ·simp at ho;subst ho;trivial
    ·simp at ho;subst ho;trivial
    ·split at ho
     ·simp at ho;subst ho;trivial
     ·simp at ho
    ·simp at ho
   have fin : ∀ (O : Obj),ObjOk (ι.upd μ.next (w.heap.size,0) 0) μ1.next (w.alloc O) μ.next o → (Instr.range t (conc ι x)).run P w = .ok (.pointer (some ⟨w.heap.size,0,none⟩)) (w.alloc O) →
     Val P pr w0 ng ι μ w (Instr.range t (conc ι x)) (.pointer (some ⟨μ.next,0,none⟩)) μ1:=by
    intro O hO hr
    obtain ⟨hS',hx,hnx,_⟩:=hS.alloc hn O 0 hO hro
    refine ⟨_,_,?_,hS',hx,by omega,by simp [hnx]⟩
    rw [hr]
    simp [Ren.addr,Ren.upd]
   split at ho
   ·rename_i s hu
    simp at ho;subst ho
    exact fin (.stringIter s 0) ⟨by simp [Ren.upd,Ren.updQ],upd_heap _ _ _⟩ (by simp [Instr.range,hE.run_und hu])
   ·rename_i hu
    simp at ho;subst ho
    exact fin (.mapIter none 0 #[] 0) ⟨by simp [Ren.upd,Ren.updQ],upd_heap _ _ _,by simp⟩ (by simp [Instr.range,hE.run_und hu])
   ·rename_i m hu
    split at ho
    ·rename_i es clock hg
     simp at ho;subst ho
     have hm:=hS.lt m _ hg
     have hobj:=(hS.obj m _ hg).2.1
     exact fin (.mapIter (some (ι.loc m).1) clock #[] clock) ⟨by simp [Ren.upd,Ren.updQ],by rw [upd_heap];simp [Ren.upd,Ren.updQ,Nat.ne_of_lt hm],by simp [hμ];omega⟩ (by simp [Instr.range,hE.run_und hu,getObj,Sem.run,hobj])
    ·cases ho
   ·cases ho
 ·cases h
omit hE in
theorem next_ok (hS : Sim pr w0 ng ι μ w) {it v : Value} {isS : Bool} {ty : TypeId} {μ' : Hp} (h : nextA it isS μ = some (v,μ')) :
  Val P pr w0 ng ι μ w (Instr.next (conc ι it) isS ty) v μ':=by
 unfold nextA at h
 split at h
 ·rename_i r
  split at h
  ·rename_i s pos hg
   have hobj:=hS.obj r _ hg
   have h0:=hobj.1
   have haddr : conc ι (.pointer (some ⟨r,0,none⟩)) = .pointer (some ⟨(ι.loc r).1,0,none⟩):=by simp [Ren.addr,h0]
   cases hlt : Nat.blt pos s.size with
   | true =>
    simp [hlt] at h
    obtain ⟨rfl,rfl⟩:=h
    have hlt' : pos < s.size:=by simpa [Nat.blt_eq] using hlt
    have hbl:=hS.blk r _ hg rfl
    refine ⟨ι,{ w with heap:=w.heap.setIfInBounds (ι.loc r).1 (.stringIter s (pos + (Utf8.decode s pos).2)) },?_,hS.turn hg rfl rfl rfl rfl (by simp) (fun k hk => by simp [Array.getElem?_setIfInBounds_ne (Ne.symm hk)]) ⟨h0,by simp [hbl]⟩,Ext.refl _ _,Nat.le_refl _,by simp [goInt]⟩
    rw [haddr]
    simp only [Instr.next,Sem.run_bind,getObj,Sem.run,hobj.2,Sem.run_pure,Result.andThen_ok]
    simp [hlt',setObj,Sem.run,hobj.2,goInt]
   | false =>
    simp [hlt] at h
    obtain ⟨rfl,rfl⟩:=h
    have hlt' : ¬ pos < s.size:=by
     intro hh
     have : Nat.blt pos s.size = true:=by simpa [Nat.blt_eq] using hh
     rw [this] at hlt;cases hlt
    refine Val.same hS ?_ (by simp)
    rw [haddr]
    simp only [Instr.next,Sem.run_bind,getObj,Sem.run,hobj.2,Sem.run_pure,Result.andThen_ok]
    simp [hlt']
  ·rename_i since seen st hg
   have hobj:=hS.obj r _ hg
   simp at h
   obtain ⟨rfl,rfl⟩:=h
   refine Val.same hS ?_ (by simp)
   have haddr : conc ι (.pointer (some ⟨r,0,none⟩)) = .pointer (some ⟨(ι.loc r).1,0,none⟩):=by simp [Ren.addr,hobj.1]
   rw [haddr]
   simp only [Instr.next,Sem.run_bind,getObj,Sem.run,hobj.2.1,Option.map_none,Sem.run_pure,Result.andThen_ok]
   simp
  ·rename_i m since seen last hg
   have hobj:=hS.obj r _ hg
   split at h
   ·rename_i es clock hgm
    have hmo:=hS.obj m _ hgm
    have haddr : conc ι (.pointer (some ⟨r,0,none⟩)) = .pointer (some ⟨(ι.loc r).1,0,none⟩):=by simp [Ren.addr,hobj.1]
    cases hc : (!seen.isEmpty && !es.isEmpty && es.all (fun e => Nat.ble last e.born)) with
    | true => simp [hc] at h
    | false =>
     simp only [hc,cond_false] at h
     have hc' : (!seen.toArray.isEmpty && !(es.map (concE ι)).toArray.isEmpty && (es.map (concE ι)).toArray.all (fun e => decide (e.born ≥ last))) = false:=by
      rw [← hc]
      have h1 : seen.toArray.isEmpty = seen.isEmpty:=by cases seen <;> rfl
      have h2 : (es.map (concE ι)).toArray.isEmpty = es.isEmpty:=by cases es <;> rfl
      have h3 : (es.map (concE ι)).toArray.all (fun e => decide (e.born ≥ last)) = es.all (fun e => Nat.ble last e.born):=by
       rw [Bool.eq_iff_iff]
       simp [List.all_eq_true,Nat.ble_eq,concE]
       exact ⟨fun h x hx => of_decide_eq_true (h x hx),fun h x hx => decide_eq_true (h x hx)⟩
      rw [h1,h2,h3]
     have hleft : (es.map (concE ι)).toArray.filter (fun e => !seen.toArray.contains e.born) = ((es.filter fun e => !seen.contains e.born).map (concE ι)).toArray:=by
      apply Array.ext'
      simp only [Array.toList_filter,List.filter_map]
      congr 2
      funext e
      simp [Function.comp,concE]
     rw [haddr]
     split at h
     ·rename_i hL
      simp at h
      obtain ⟨rfl,rfl⟩:=h
      refine Val.same hS ?_ (by simp)
      simp only [Instr.next,Sem.run_bind,getObj,Sem.run,hobj.2.1,Option.map_some,Sem.run_pure,Result.andThen_ok,hmo.2.1]
      rw [if_neg (by rw [hc'];simp),hleft,hL]
      simp [Question.forced]
     ·rename_i e hL
      cases hbs : Nat.blt e.born since with
      | false => simp [hbs] at h
      | true =>
       simp only [hbs,cond_true,Option.some.injEq,Prod.mk.injEq] at h
       obtain ⟨rfl,rfl⟩:=h
       have hbs' : e.born < since:=by simpa [Nat.blt_eq] using hbs
       have hmem : e ∈ es:=by
        have : e ∈ es.filter fun e => !seen.contains e.born:=by rw [hL];simp
        exact (List.mem_filter.1 this).1
       have hbe:=hmo.2.2 e hmem
       have hbl:=hS.blk r _ hg rfl
       refine ⟨ι,{ w with heap:=w.heap.setIfInBounds (ι.loc r).1 (.mapIter (some (ι.loc m).1) since (seen.toArray.push e.born) clock) },?_,hS.turn hg rfl rfl rfl rfl (by simp) (fun k hk => by simp [Array.getElem?_setIfInBounds_ne (Ne.symm hk)]) ⟨hobj.1,by simp [hbl],hobj.2.2⟩,Ext.refl _ _,Nat.le_refl _,by simp;exact hbe⟩
       have hnot : ¬ since ≤ e.born:=by omega
       simp only [Instr.next,Sem.run_bind,getObj,Sem.run,hobj.2.1,Option.map_some,Sem.run_pure,Result.andThen_ok,hmo.2.1]
       rw [if_neg (by rw [hc'];simp),hleft,hL]
       simp [Question.forced,concE,hbs',hnot,setObj,Sem.run,hobj.2.1]
     ·cases h
   ·cases h
  ·cases h
 ·cases h
end
end Go.Abs
end
section
namespace Go.Abs
def concD (ι : Ren) (d : Deferred) : Deferred :=
 { target:=match d.target with | .fn fn c => .fn fn (c.map (conc ι)) | .collected r => .collected (ι.loc r).1 | t => t,args:=d.args.map (conc ι) }
def BdD (N : Nat) (d : Deferred) : Prop:=(∀ x ∈ d.args,Bd N x)∧match d.target with | .fn _ c => ∀ x ∈ c,Bd N x | .collected r => r < N | _ => True
section
variable {P : Program} {E : Env} {pr : Prot} {w0 : World} {ng : Nat} {ι : Ren} {μ : Hp} {w : World} (hE : EnvOk P E)
theorem entry_ok (hS : Sim pr w0 ng ι μ w) {it v : Value} (h : entryA it μ = some v) : (Instr.entry (conc ι it)).run P w = .ok (conc ι v) w∧Bd μ.next v:=by
 unfold entryA at h
 split at h
 ·rename_i r
  split at h
  ·rename_i m since seen st hg
   have hobj:=hS.obj r _ hg
   split at h
   ·rename_i stamp es clock hlast hgm
    have hmo:=hS.obj m _ hgm
    have haddr : conc ι (.pointer (some ⟨r,0,none⟩)) = .pointer (some ⟨(ι.loc r).1,0,none⟩):=by simp [Ren.addr,hobj.1]
    cases hc : Nat.beq clock st with
    | false => simp [hc] at h
    | true =>
     have hc':=beq_yes hc
     simp only [hc,cond_true] at h
     cases hf : es.find? (fun e => Nat.beq e.born stamp) with
     | none => simp [hf] at h
     | some e =>
      simp only [hf,Option.some.injEq] at h
      subst h
      have hbe:=hmo.2.2 e (List.mem_of_find?_eq_some hf)
      refine ⟨?_,by simp;exact hbe⟩
      rw [haddr]
      have hback : seen.toArray.back? = some stamp:=by simpa [Array.back?,List.getLast?_eq_getElem?] using hlast
      have hfind : (es.map (concE ι)).toArray.find? (fun e => e.born == stamp) = some (concE ι e):=by
       rw [List.find?_toArray,List.find?_map]
       have : ((fun e : MapEntry => e.born == stamp) ∘ concE ι) = fun e => Nat.beq e.born stamp:=by
        funext e
        simp only [Function.comp,concE]
        cases hb : Nat.beq e.born stamp with
        | true => simpa using beq_yes hb
        | false => simpa using Nat.ne_of_beq_eq_false hb
       rw [this,hf]
       rfl
      simp only [Instr.entry,Sem.run_bind,getObj,Sem.run,hobj.2.1,Option.map_some,Sem.run_pure,Result.andThen_ok,hback,hmo.2.1,hc']
      simp [hfind,concE]
   ·cases h
  ·cases h
 ·cases h
include hE
theorem fail_ok {t : TypeId} {v : Value} {ok : Bool} {N : Nat} (h : failA E t ok = some v) : ok = true∧∃ z,v = .tuple #[z,.bool false]∧(∀ w,(zeroValue t).run P w = .ok z w)∧conc ι z = z∧Bd N z:=by
 unfold failA at h
 cases ok with
 | false => simp at h
 | true =>
  simp only [cond_true,Option.map_eq_some_iff] at h
  obtain ⟨z,hz,rfl⟩:=h
  obtain ⟨z1,z2⟩:=zero_val hE hz ι N
  exact ⟨rfl,z,rfl,fun w => (hE.run_zero hz w).1,z1,z2⟩
theorem assert_ok {x v : Value} {xt asserted : TypeId} {ok : Bool} {N : Nat} (h : assertA E x asserted ok = some v) (hb : Bd N x) (w : World) :
  (Instr.typeAssert (conc ι x) xt asserted ok).run P w = .ok (conc ι v) w∧Bd N v:=by
 unfold assertA at h
 cases hu : E.und asserted with
 | none => simp [hu] at h
 | some d =>
  simp only [hu] at h
  have hrun:=hE.run_und hu
  cases hw : wantOf d with
  | some want =>
   have hd : d = .interface want:=by cases d <;> simp [wantOf] at hw;subst hw;rfl
   subst hd
   simp only [hw] at h
   split at h
   ·obtain ⟨rfl,z,rfl,hz,z1,z2⟩:=fail_ok (ι:=ι) (N:=N) hE h
    simp [Instr.typeAssert,hrun,hz,z1,z2]
   ·rename_i t u
    simp only [Bd_iface] at hb
    cases hi : E.info t with
    | none => simp [hi] at h
    | some i =>
     simp only [hi] at h
     have hm : ∀ w,(typeInfo t).run P w = .ok i w:=hE.run_info hi
     cases hmm : Instr.missingMethod want i.methods with
     | none =>
      simp only [hmm,Option.some.injEq] at h
      subst h
      cases ok <;> simp [heldA,Instr.typeAssert,hrun,hm,hmm,hb]
     | some mm =>
      simp only [hmm] at h
      obtain ⟨rfl,z,rfl,hz,z1,z2⟩:=fail_ok (ι:=ι) (N:=N) hE h
      simp [Instr.typeAssert,hrun,hm,hmm,hz,z1,z2]
   ·cases h
  | none =>
   simp only [hw] at h
   split at h
   ·obtain ⟨rfl,z,rfl,hz,z1,z2⟩:=fail_ok (ι:=ι) (N:=N) hE h
    refine ⟨?_,by simp [z2]⟩
    simp only [Instr.typeAssert,Sem.run_bind,hrun,Result.andThen_ok,conc_nilIface]
    cases d <;> simp [wantOf] at hw <;> simp [hz,z1]
   ·rename_i t u
    simp only [Bd_iface] at hb
    cases ht : Nat.beq t asserted with
    | true =>
     have ht':=beq_yes ht
     simp only [ht,cond_true,Option.some.injEq] at h
     subst h
     refine ⟨?_,by cases ok <;> simp [heldA,hb]⟩
     simp only [Instr.typeAssert,Sem.run_bind,hrun,Result.andThen_ok,conc_iface]
     cases d <;> simp [wantOf] at hw <;> cases ok <;> simp [ht',heldA]
    | false =>
     have ht':=Nat.ne_of_beq_eq_false ht
     simp only [ht,cond_false] at h
     obtain ⟨rfl,z,rfl,hz,z1,z2⟩:=fail_ok (ι:=ι) (N:=N) hE h
     refine ⟨?_,by simp [z2]⟩
     simp only [Instr.typeAssert,Sem.run_bind,hrun,Result.andThen_ok,conc_iface]
     cases d <;> simp [wantOf] at hw <;> simp [ht',hz,z1]
   ·cases h
theorem ofPR_ok (hS : Sim pr w0 ng ι μ w) {s : Sem Value} {v : Value} {μ' : Hp} (h : ofPR μ (pureRun P s) = .val v μ') : μ' = μ∧s.run P w = .ok (conc ι v) w∧Bd μ.next v:=by
 unfold ofPR at h
 split at h
 ·rename_i r hr
  cases hfl : flat r with
  | false => simp [hfl] at h
  | true =>
   simp [hfl] at h
   obtain ⟨rfl,rfl⟩:=h
   have c:=conc_flat ι μ.next r hfl
   exact ⟨rfl,by rw [c.1];exact pureRun_ok hr w,c.2⟩
 ·rename_i r hr
  cases hfl : flat r <;> simp [hfl] at h
 ·cases h
theorem ofPR_pan {s : Sem Value} {v : Value} {μ' : Hp} (h : ofPR μ (pureRun P s) = .pan v μ') (w : World) : μ' = μ∧s.run P w = .halt (.panic (conc ι v)) w∧Bd μ.next v:=by
 unfold ofPR at h
 split at h
 ·rename_i r hr
  cases hfl : flat r <;> simp [hfl] at h
 ·rename_i r hr
  cases hfl : flat r with
  | false => simp [hfl] at h
  | true =>
   simp [hfl] at h
   obtain ⟨rfl,rfl⟩:=h
   have c:=conc_flat ι μ.next r hfl
   exact ⟨rfl,by rw [c.1];exact pureRun_pan hr w,c.2⟩
 ·cases h
theorem binOpB_pan {op : BinOp} {t : TypeId} {ox oy : Operand} {x y v : Value} {μ' : Hp} (h : binOpB P E op t ox oy x y μ = .pan v μ') (w : World) :
  μ' = μ∧(do eqGuard op t ox oy (conc ι x) (conc ι y);binOp op t (conc ι x) (conc ι y)).run P w = .halt (.panic (conc ι v)) w∧Bd μ.next v:=by
 unfold binOpB at h
 split at h
 ·split at h
  ·cases hc : (constOp ox || constOp oy) <;> simp [hc] at h
  ·cases h
 ·split at h
  ·cases hc : (constOp ox || constOp oy) <;> simp [hc] at h
  ·cases h
 ·cases hf : (flat x && flat y) with
  | true =>
   simp only [hf,cond_true] at h
   simp only [Bool.and_eq_true] at hf
   rw [(conc_flat ι 0 x hf.1).1,(conc_flat ι 0 y hf.2).1]
   exact ofPR_pan hE h w
  | false =>
   simp only [hf,cond_false] at h
   split at h <;> cases h
theorem binOp_pan {op : BinOp} {t : TypeId} {ox oy : Operand} {x y v : Value} {μ' : Hp} (h : binOpA P E op t ox oy x y μ = .pan v μ') (w : World) :
  μ' = μ∧(do eqGuard op t ox oy (conc ι x) (conc ι y);binOp op t (conc ι x) (conc ι y)).run P w = .halt (.panic (conc ι v)) w∧Bd μ.next v:=by
 unfold binOpA at h
 split at h
 ·cases h
 ·exact binOpB_pan hE h w
theorem convert_ok (hS : Sim pr w0 ng ι μ w) {src dst : TypeId} {x v : Value} {μ' : Hp} (h : convertA P E src dst x μ = .val v μ') (hb : Bd μ.next x) :
  Val P pr w0 ng ι μ w (convert src dst (conc ι x)) v μ':=by
 unfold convertA at h
 split at h
 ·rename_i d k kk n hu1 hu2
  simp at h
  obtain ⟨rfl,rfl⟩:=h
  refine Val.same hS ?_ (by simp)
  simp only [convert,Sem.run_bind,hE.run_und hu1,hE.run_und hu2,Result.andThen_ok,conc_int,Conv.intToInt]
  cases d <;> rfl
 ·rename_i d s hu1 hu2
  simp at h
  obtain ⟨rfl,rfl⟩:=h
  refine Val.same hS ?_ (by simp)
  simp only [convert,Sem.run_bind,hE.run_und hu1,hE.run_und hu2,Result.andThen_ok,conc_string]
  cases d <;> rfl
 ·rename_i d e s hu1 hu2
  split at h
  ·rename_i he
   cases hn : μ.new (.cells (intList s.data.toList) 1) with
   | none => simp [hn] at h
   | some q =>
    obtain ⟨n,μ1⟩:=q
    simp only [hn,OR.val.injEq] at h
    obtain ⟨rfl,rfl⟩:=h
    rw [conc_string]
    exact toBytes_ok hE hS hu1 hu2 he hn
  ·cases h
 ·rename_i e l c hu1 hu2
  split at h
  ·rename_i he
   simp at h
   obtain ⟨rfl,rfl⟩:=h
   refine Val.same hS ?_ (by simp)
   rw [conc_nilslice,conc_string]
   exact run_convert_bytes_nil w src e (hE.und hu1) (hE.und he) l c dst (hE.und hu2)
  ·cases h
 ·rename_i e a len c hu1 hu2
  split at h
  ·rename_i vs he hf
   split at h
   ·rename_i l hl
    simp at h
    obtain ⟨rfl,rfl⟩:=h
    refine Val.same hS ?_ (by simp)
    rw [conc_string]
    exact toString_ok hE hS hu1 hu2 he hf hb hl
   ·cases h
  ·cases h
 ·rename_i e wd hu1 hu2
  split at h
  ·rename_i len r he hw
   split at h
   ·rename_i vs hf
    split at h
    ·rename_i l hl
     simp at h
     obtain ⟨rfl,rfl⟩:=h
     refine Val.same hS ?_ (by simp)
     rw [conc_string]
     exact wordString_ok hE hS hu1 hu2 he hw hf hb hl
    ·cases h
   ·cases h
  ·cases h
 ·have:=ofPR_ok hE hS h
  obtain ⟨rfl,h1,h2⟩:=this
  exact Val.same hS (by simpa using h1) h2
 ·have:=ofPR_ok hE hS h
  obtain ⟨rfl,h1,h2⟩:=this
  exact Val.same hS (by simpa using h1) h2
 ·cases h
end
end Go.Abs
end
section
namespace Go.Abs
def OpRel (P : Program) (pr : Prot) (w0 : World) (ng : Nat) (ι : Ren) (μ : Hp) (w : World) (s : Sem Next) : OR → Prop
 | .val v μ' => ∃ ι' w',(s.run P w = .ok (.value (conc ι' v)) w' ∨ (s.run P w = .ok .skip w'∧v = undef))∧Sim pr w0 ng ι' μ' w'∧Ext μ.next ι ι'∧μ.next ≤ μ'.next∧Bd μ'.next v
 | .call f args μ' => μ' = μ∧s.run P w = .ok (.enter f (args.map (conc ι)).toArray) w∧∀ x ∈ args,Bd μ.next x
 | .dfr d μ' => μ' = μ∧s.run P w = .ok (.defer (concD ι d)) w∧BdD μ.next d
 | .pan v μ' => μ' = μ∧s.run P w = .halt (.panic (conc ι v)) w∧Bd μ.next v
 | .no => True
section
variable {P : Program} {E : Env} {pr : Prot} {w0 : World} {ι : Ren} {μ : Hp} {w : World} (hE : EnvOk P E) {ng : Nat}
theorem OpRel.ofVal {s : Sem Value} {r : Option (Value × Hp)} (h : ∀ v μ',r = some (v,μ') → Val P pr w0 ng ι μ w s v μ') : OpRel P pr w0 ng ι μ w (do pure (.value (← s))) (Abs.ofVal r):=by
 cases r with
 | none => trivial
 | some q =>
  obtain ⟨v,μ'⟩:=q
  obtain ⟨ι',w',h1,h2,h3,h4,h5⟩:=h v μ' rfl
  exact ⟨ι',w',.inl (by simp [h1]),h2,h3,h4,h5⟩
theorem OpRel.ofV (hS : Sim pr w0 ng ι μ w) {s : Sem Value} {r : Option Value} (h : ∀ v,r = some v → s.run P w = .ok (conc ι v) w∧Bd μ.next v) : OpRel P pr w0 ng ι μ w (do pure (.value (← s))) (Abs.ofV μ r):=by
 cases r with
 | none => trivial
 | some v =>
  obtain ⟨h1,h2⟩:=h v rfl
  exact ⟨ι,w,.inl (by simp [h1]),hS,Ext.refl _ _,Nat.le_refl _,h2⟩
theorem OpRel.ofHp {s : Sem Unit} {r : Option Hp} (h : ∀ μ',r = some μ' → Unt P pr w0 ng ι μ w s μ') : OpRel P pr w0 ng ι μ w (do s;pure .skip) (Abs.ofHp r):=by
 cases r with
 | none => trivial
 | some μ' =>
  obtain ⟨ι',w',h1,h2,h3,h4⟩:=h μ' rfl
  exact ⟨ι',w',.inr ⟨by simp [h1],rfl⟩,h2,h3,h4,by simp⟩
theorem OpRel.val {s : Sem Value} {v : Value} {μ' : Hp} (h : Val P pr w0 ng ι μ w s v μ') : OpRel P pr w0 ng ι μ w (do pure (.value (← s))) (.val v μ'):=by
 obtain ⟨ι',w',h1,h2,h3,h4,h5⟩:=h
 exact ⟨ι',w',.inl (by simp [h1]),h2,h3,h4,h5⟩
theorem OpRel.same (hS : Sim pr w0 ng ι μ w) {s : Sem Value} {v : Value} (h : s.run P w = .ok (conc ι v) w) (hb : Bd μ.next v) : OpRel P pr w0 ng ι μ w (do pure (.value (← s))) (.val v μ) :=
 OpRel.val (Val.same hS h hb)
include hE
theorem OpRel.ofPR (hS : Sim pr w0 ng ι μ w) {s : Sem Value} : OpRel P pr w0 ng ι μ w (do pure (.value (← s))) (Abs.ofPR μ (pureRun P s)):=by
 cases h : Abs.ofPR μ (pureRun P s) with
 | val v μ' => obtain ⟨rfl,h1,h2⟩:=ofPR_ok (ι:=ι) hE hS h;exact OpRel.same hS h1 h2
 | pan v μ' => obtain ⟨rfl,h1,h2⟩:=ofPR_pan (ι:=ι) hE h w;exact ⟨rfl,by simp [h1],h2⟩
 | call f a μ' => unfold Abs.ofPR at h;split at h <;> (try (rename_i r _;cases hfl : flat r <;> simp [hfl] at h)) <;> simp at h
 | dfr d μ' => unfold Abs.ofPR at h;split at h <;> (try (rename_i r _;cases hfl : flat r <;> simp [hfl] at h)) <;> simp at h
 | no => trivial
theorem ofPR_kind {r : PR Value} : (∃ v μ',Abs.ofPR μ r = .val v μ') ∨ (∃ v μ',Abs.ofPR μ r = .pan v μ') ∨ Abs.ofPR μ r = .no:=by
 unfold Abs.ofPR
 split
 ·rename_i r
  cases hfl : flat r
  ·exact .inr (.inr rfl)
  ·exact .inl ⟨_,_,rfl⟩
 ·rename_i r
  cases hfl : flat r
  ·exact .inr (.inr rfl)
  ·exact .inr (.inl ⟨_,_,rfl⟩)
 ·exact .inr (.inr rfl)
theorem binOpB_kind {op : BinOp} {t : TypeId} {ox oy : Operand} {x y : Value} : (∃ v μ',binOpB P E op t ox oy x y μ = .val v μ') ∨ (∃ v μ',binOpB P E op t ox oy x y μ = .pan v μ') ∨ binOpB P E op t ox oy x y μ = .no:=by
 unfold binOpB
 split
 ·split
  ·cases hc : (constOp ox || constOp oy)
   ·exact .inr (.inr rfl)
   ·exact .inl ⟨_,_,rfl⟩
  ·exact .inr (.inr rfl)
 ·split
  ·cases hc : (constOp ox || constOp oy)
   ·exact .inr (.inr rfl)
   ·exact .inl ⟨_,_,rfl⟩
  ·exact .inr (.inr rfl)
 ·cases hf : (flat x && flat y) with
  | true => simp only [cond_true];exact ofPR_kind hE
  | false =>
   simp only [cond_false]
   split
   ·exact .inl ⟨_,_,rfl⟩
   ·exact .inl ⟨_,_,rfl⟩
   ·exact .inr (.inr rfl)
theorem binOpA_kind {op : BinOp} {t : TypeId} {ox oy : Operand} {x y : Value} : (∃ v μ',binOpA P E op t ox oy x y μ = .val v μ') ∨ (∃ v μ',binOpA P E op t ox oy x y μ = .pan v μ') ∨ binOpA P E op t ox oy x y μ = .no:=by
 unfold binOpA
 split
 ·exact .inl ⟨_,_,rfl⟩
 ·exact binOpB_kind hE
theorem binOp_rel (hS : Sim pr w0 ng ι μ w) (op : BinOp) (t : TypeId) (ox oy : Operand) (x y : Value) :
  OpRel P pr w0 ng ι μ w (do pure (.value (← (do eqGuard op t ox oy (conc ι x) (conc ι y);binOp op t (conc ι x) (conc ι y))))) (binOpA P E op t ox oy x y μ):=by
 rcases binOpA_kind (P:=P) (E:=E) (μ:=μ) hE (op:=op) (t:=t) (ox:=ox) (oy:=oy) (x:=x) (y:=y) with ⟨v,μ',h⟩ | ⟨v,μ',h⟩ | h
 ·rw [h];exact OpRel.val (binOp_ok hE hS h)
 ·obtain ⟨rfl,h1,h2⟩:=binOp_pan (ι:=ι) hE h w
  rw [h];exact ⟨rfl,by simp only [Sem.run_bind,h1];rfl,h2⟩
 ·rw [h];trivial
theorem convert_rel (hS : Sim pr w0 ng ι μ w) (src dst : TypeId) (x : Value) (hb : Bd μ.next x) :
  OpRel P pr w0 ng ι μ w (do pure (.value (← convert src dst (conc ι x)))) (convertA P E src dst x μ):=by
 cases h : convertA P E src dst x μ with
 | val v μ' => exact OpRel.val (convert_ok hE hS h hb)
 | no => trivial
 | pan v μ' =>
  unfold convertA at h
  split at h <;> (try (simp at h;done))
  ·split at h <;> (try (split at h)) <;> simp at h
  ·split at h <;> simp at h
  ·split at h <;> (try (split at h)) <;> simp at h
  ·split at h <;> (try (split at h)) <;> (try (split at h)) <;> simp at h
  all_goals
   obtain ⟨rfl,h1,h2⟩:=ofPR_pan (ι:=ι) hE h w
   exact ⟨rfl,by simp only [conc_int,conc_float,Sem.run_bind,h1];rfl,h2⟩
 | call f a μ' =>
  exfalso
  unfold convertA at h
  split at h <;> (try (simp at h;done))
  ·split at h <;> (try (split at h)) <;> simp at h
  ·split at h <;> simp at h
  ·split at h <;> (try (split at h)) <;> simp at h
  ·split at h <;> (try (split at h)) <;> (try (split at h)) <;> simp at h
  all_goals
   rcases ofPR_kind (P:=P) (E:=E) (μ:=μ) hE (r:=pureRun P (convert src dst _)) with ⟨v,m,hk⟩ | ⟨v,m,hk⟩ | hk <;> rw [hk] at h <;> cases h
 | dfr d μ' =>
  exfalso
  unfold convertA at h
  split at h <;> (try (simp at h;done))
  ·split at h <;> (try (split at h)) <;> simp at h
  ·split at h <;> simp at h
  ·split at h <;> (try (split at h)) <;> simp at h
  ·split at h <;> (try (split at h)) <;> (try (split at h)) <;> simp at h
  all_goals
   rcases ofPR_kind (P:=P) (E:=E) (μ:=μ) hE (r:=pureRun P (convert src dst _)) with ⟨v,m,hk⟩ | ⟨v,m,hk⟩ | hk <;> rw [hk] at h <;> cases h
theorem flats_conc {args : List Value} (h : args.all flat = true) (ι : Ren) : args.map (conc ι) = args:=by
 have : args.map (conc ι) = args.map id:=List.map_congr_left fun x hx => (conc_flat ι 0 x (List.all_eq_true.1 h x hx)).1
 simpa using this
theorem builtin_rel (hS : Sim pr w0 ng ι μ w) (b : Builtin) (ts : Array TypeId) (ty : TypeId) (cs : Array Bool) (args : List Value) (hb : ∀ x ∈ args,Bd μ.next x) :
  OpRel P pr w0 ng ι μ w (builtin b ts ty cs (args.map (conc ι)).toArray) (builtinA P E b ts.toList ty args μ):=by
 have hts : ts = ⟨ts.toList⟩:=rfl
 unfold builtinA
 split
 ·exact OpRel.ofVal fun v μ' h => append_ok hE hS h hb
 ·exact OpRel.ofVal fun v μ' h => copy_ok hE hS h hb
 ·exact OpRel.ofV hS fun v h => lenB_ok hE hS h
 ·exact OpRel.ofV hS fun v h => capB_ok hE h w
 ·exact OpRel.ofVal fun v μ' h => delete_ok hE hS h
 ·exact OpRel.ofVal fun v μ' h => clear_ok hE hS h
 ·cases hf : args.all flat with
  | false => trivial
  | true =>
   rw [flats_conc hE hf]
   exact OpRel.ofPR hE hS (s:=Builtin.min_ ts ty ⟨args⟩)
 ·cases hf : args.all flat with
  | false => trivial
  | true =>
   rw [flats_conc hE hf]
   exact OpRel.ofPR hE hS (s:=Builtin.max_ ts ty ⟨args⟩)
 ·trivial
theorem nilCheck_run {x v : Value} (h : nilCheckA x = some v) : v = x∧(∀ (F : Value → Sem Next) (k : Sem Next) ,(match conc ι x with
  | .pointer none | .nilIface | .nilFunc => k
  | .func (.method name) first captured => F (conc ι x)
  | y => pure (.value y) : Sem Next) = pure (.value (conc ι x))):=by
 match x,h with
 | .pointer none,h | .nilIface,h | .nilFunc,h => simp [nilCheckA] at h
 | .func (.method m) f c,h => simp [nilCheckA] at h
 | .func (.func g) f c,h => simp [nilCheckA] at h;subst h;exact ⟨rfl,fun F k => by simp⟩
 | .func (.methodOf t m) f c,h => simp [nilCheckA] at h;subst h;exact ⟨rfl,fun F k => by simp⟩
 | .func (.via t p f' b) f c,h => simp [nilCheckA] at h;subst h;exact ⟨rfl,fun F k => by simp⟩
 | .func (.yield l) f c,h => simp [nilCheckA] at h;subst h;exact ⟨rfl,fun F k => by simp⟩
 | .pointer (some a),h | .slice (some a) _ _,h | .map (some r),h | .iface t u,h | .agg cs,h | .tuple cs,h => simp [nilCheckA] at h;subst h;exact ⟨rfl,fun F k => by simp⟩
 | .chan _,h => simp [nilCheckA] at h
 | .bool _,h | .int _ _,h | .float _ _,h | .complex _ _ _,h | .string _,h | .slice none _ _,h | .map none,h => simp [nilCheckA] at h;subst h;exact ⟨rfl,fun F k => by simp⟩
theorem nilCheck_exec {x v : Value} (h : nilCheckA x = some v) (ρ : Operand → Value) (y : Operand) (hρ : ρ y = conc ι x) (dst : Option Tmp) (type : TypeId) (pos : String) (after : Array Edge) (guard : Option (Nat × Bool)) :
  execOp ρ { dst,op:=.nilCheck y,type,pos,after,guard } = pure (.value (conc ι x)):=by
 match x,h with
 | .pointer none,h | .nilIface,h | .nilFunc,h => simp [nilCheckA] at h
 | .func (.method m) f c,h => simp [nilCheckA] at h
 | .func (.func g) f c,h => simp [execOp,hρ]
 | .func (.methodOf t m) f c,h => simp [execOp,hρ]
 | .func (.via t p f' b) f c,h => simp [execOp,hρ]
 | .func (.yield l) f c,h => simp [execOp,hρ]
 | .pointer (some a),h | .slice (some a) _ _,h | .map (some r),h | .iface t u,h | .agg cs,h | .tuple cs,h => simp [execOp,hρ]
 | .chan _,h => simp [nilCheckA] at h
 | .bool _,h | .int _ _,h | .float _ _,h | .complex _ _ _,h | .string _,h | .slice none _ _,h | .map none,h => simp [execOp,hρ]
omit hE in
theorem parts_map (ι : Ren) (ev : Operand → Value) (parts : Array (Nat × Operand)) : (parts.map fun (i,x) => (i,conc ι (ev x))) = ((parts.toList.map fun (i,x) => (i,ev x)).map fun p => (p.1,conc ι p.2)).toArray:=by
 apply Array.ext'
 simp
theorem op_rel (hS : Sim pr w0 ng ι μ w) (o : Oper) (ρ ev : Operand → Value) (hρ : ∀ x ∈ o.op.operands,okOpnd E ev x = true → ρ x = conc ι (ev x)∧Bd μ.next (ev x)) :
  OpRel P pr w0 ng ι μ w (execOp ρ o) (opA P E ev o μ):=by
 unfold opA
 cases hops : o.op.operands.toList.all (okOpnd E ev) with
 | false => trivial
 | true =>
  simp only [cond_true]
  have hok : ∀ x ∈ o.op.operands,okOpnd E ev x = true:=fun x hx => List.all_eq_true.1 hops x (by simpa using hx)
  by_cases hsel : ∃ cs b,o.op = .select cs b
  ·obtain ⟨cs,b,hs⟩:=hsel
   simp only [hs]
   trivial
  ·rw [execOp_congr (ρ':=fun x => conc ι (ev x)) o (fun cs b h => hsel ⟨cs,b,h⟩) (fun x hx => (hρ x hx (hok x hx)).1)]
   have hbd : ∀ x ∈ o.op.operands,Bd μ.next (ev x):=fun x hx => (hρ x hx (hok x hx)).2
   clear hρ hok hops hsel
   obtain ⟨dst,op,type,pos,after,guard⟩:=o
   cases op <;> simp only [Op.operands] at hbd <;> simp only [execOp] <;> try trivial
   case move x => exact OpRel.same hS (s:=pure (conc ι (ev x))) rfl (hbd x (by simp))
   case assign x => exact OpRel.same hS (s:=pure (conc ι (ev x))) rfl (hbd x (by simp))
   case pick c a b =>
    split
    ·rename_i hc
     refine ⟨ι,w,.inl ?_,hS,Ext.refl _ _,Nat.le_refl _,hbd a (by simp)⟩
     simp [hc,asBool]
    ·rename_i hc
     refine ⟨ι,w,.inl ?_,hS,Ext.refl _ _,Nat.le_refl _,hbd b (by simp)⟩
     simp [hc,asBool]
    ·trivial
   case alloc t =>
    split
    ·rename_i z hz
     refine OpRel.ofVal fun v μ' h => ?_
     obtain ⟨z1,z2⟩:=zero_val hE hz ι μ.next
     obtain ⟨ι',w',h1,h2,h3,h4,h5⟩:=newVar_ok (P:=P) hS h z2 t
     refine ⟨ι',w',?_,h2,h3,h4,h5⟩
     rw [z1] at h1
     simp only [Sem.run_bind,Instr.alloc,(hE.run_zero hz _).1,Result.andThen_ok] at h1 ⊢
     exact h1
    ·trivial
   case box t x =>
    exact OpRel.ofVal fun v μ' h => newVar_ok (P:=P) hS h (hbd x (by simp)) t
   case build t parts =>
    refine OpRel.ofV hS fun v h => ?_
    rw [parts_map]
    exact build_ok (ι:=ι) (N:=μ.next) hE h (fun p hp => by
     obtain ⟨q,hq,rfl⟩:=List.mem_map.1 hp
     exact hbd q.2 (by simp;exact ⟨q.1,by simpa using hq⟩)) w
   case buildSlice t len parts =>
    refine OpRel.ofVal fun v μ' h => ?_
    rw [parts_map]
    exact buildSlice_ok hE hS h (fun p hp => by
     obtain ⟨q,hq,rfl⟩:=List.mem_map.1 hp
     exact hbd q.2 (by simp;exact ⟨q.1,by simpa using hq⟩))
   case insert t m k x => exact OpRel.ofHp fun μ' h => update_ok hE hS h (hbd k (by simp)) (hbd x (by simp))
   case load t a =>
    split
    ·rename_i ad ha
     split
     ·rename_i ds hg
      split
      ·rename_i v hk
       obtain ⟨h1,h2⟩:=knownLoad_ok hE hS hk
       refine OpRel.ofV (r:=some v) hS fun v' hv' => ?_
       cases hv'
       rw [ha,conc_ptr]
       exact ⟨h1,h2⟩
      ·refine OpRel.ofVal fun v μ' h => ?_
       rw [ha,conc_ptr]
       exact loadRo_ok hE hS (hS.deep_cells hg) h
     ·refine OpRel.ofV hS fun v h => ?_
      rw [ha,conc_ptr]
      exact load_ok hE hS h
    ·trivial
   case store t a x =>
    split
    ·rename_i ad ha
     refine OpRel.ofHp fun μ' h => ?_
     rw [ha,conc_ptr]
     exact store_ok hE hS h (hbd x (by simp))
    ·trivial
   case nilCheck x =>
    cases h : nilCheckA (ev x) with
    | none => trivial
    | some v =>
     obtain ⟨rfl,hr⟩:=nilCheck_run (ι:=ι) hE h
     refine ⟨ι,w,.inl ?_,hS,Ext.refl _ _,Nat.le_refl _,hbd x (by simp)⟩
     exact congrArg (fun s : Sem Next => s.run P w) (nilCheck_exec (ι:=ι) hE h (fun x => conc ι (ev x)) x rfl dst type pos after guard)
   case binOp op t x y yt => exact binOp_rel hE hS op t x y (ev x) (ev y)
   case unOp op t x =>
    cases hf : flat (ev x) with
    | false => trivial
    | true =>
     simp only [cond_true]
     rw [(conc_flat ι 0 _ hf).1]
     exact OpRel.ofPR hE hS
   case convert src dst x => exact convert_rel hE hS src dst (ev x) (hbd x (by simp))
   case makeInterface t x =>
    split
    ·trivial
    ·rename_i d hni hu
     refine OpRel.same hS ?_ (by simpa using hbd x (by simp))
     simp only [Instr.makeInterface,Sem.run_bind,hE.run_und hu,Result.andThen_ok,conc_iface]
     cases d <;> first | rfl | exact absurd rfl (hni _)
    ·trivial
   case makeFunc fn first captured =>
    refine OpRel.same hS (s:=Instr.makeFunc fn (first.map fun x => conc ι (ev x)) (captured.map fun x => conc ι (ev x))) ?_ ?_
    ·simp only [Instr.makeFunc,Sem.run_pure,conc_func]
     congr 2
     ·apply Array.ext';simp
     ·apply Array.ext';simp
    ·simp only [Bd_func]
     refine ⟨fun y hy => ?_,fun y hy => ?_⟩
     ·simp at hy
      obtain ⟨z,hz,rfl⟩:=hy
      exact hbd z (by simp [hz])
     ·simp at hy
      obtain ⟨z,hz,rfl⟩:=hy
      exact hbd z (by simp [hz])
   case makeMap t r =>
    have fin : ∀ (n : Nat) (μ1 : Hp),μ.new (.map [] 0) = some (n,μ1) → ∀ s : Sem Value,s.run P w = .ok (.map (some w.heap.size)) (w.alloc (.map #[] 0)) → Val P pr w0 ng ι μ w s (.map (some n)) μ1:=by
     intro n μ1 hn s hs
     obtain ⟨hS',hx,hnx,rfl⟩:=hS.alloc hn (.map #[] 0) 0 ⟨by simp [Ren.upd,Ren.updQ,(Hp.new_eq hn).1],by rw [(Hp.new_eq hn).1,upd_heap];rfl,by simp⟩
     exact ⟨_,_,by rw [hs];simp [Ren.upd,Ren.updQ],hS',hx,by omega,by simp [hnx]⟩
    split
    ·rename_i k e hu
     refine OpRel.ofVal fun v μ' h => ?_
     split at h
     ·rename_i n μ1 hn
      simp only [Option.some.injEq,Prod.mk.injEq] at h
      obtain ⟨rfl,rfl⟩:=h
      exact fin n μ1 hn _ (by simp [Instr.makeMap])
     ·cases h
    ·rename_i k e r hu
     split
     ·rename_i kk i hi
      refine OpRel.ofVal fun v μ' h => ?_
      split at h
      ·rename_i n μ1 hn
       simp only [Option.some.injEq,Prod.mk.injEq] at h
       obtain ⟨rfl,rfl⟩:=h
       exact fin n μ1 hn _ (by simp [Instr.makeMap,hE.run_und hu,hi,asInt,asIntOf])
      ·cases h
     ·trivial
    ·trivial
   case makeSlice t l c => exact OpRel.ofVal fun v μ' h => makeSlice_ok hE hS h
   case slice t x lo hi mx =>
    refine OpRel.ofVal fun v μ' h => ?_
    have:=slice_ok hE hS h (hbd x (by simp))
    simpa only [Option.map_map,Function.comp_def] using this
   case fieldAddr s x f =>
    split
    ·rename_i a fd ha hf
     split
     ·trivial
     ·rename_i n hn
      refine OpRel.same hS ?_ (by have:=hbd x (by simp);rw [ha] at this;simpa [block_add] using this)
      rw [ha,conc_ptr]
      exact fieldAddr_ok (ι:=ι) hE hf hn w
     ·trivial
    ·trivial
   case field t x f =>
    split
    ·rename_i cs fd ha hf
     refine OpRel.ofV hS fun v h => ?_
     rw [ha,conc_agg]
     exact field_ok (ι:=ι) hE hf h (by have:=hbd x (by simp);rw [ha] at this;simpa using this) w
    ·trivial
   case indexAddr t x i => exact OpRel.ofV hS fun v h => indexAddr_ok hE hS h (hbd x (by simp))
   case index t x i => exact OpRel.ofV hS fun v h => index_ok hE h (hbd x (by simp)) w
   case lookup t x i ok => exact OpRel.ofV hS fun v h => lookup_ok hE hS h
   case mapUpdate t m k x => exact OpRel.ofHp fun μ' h => update_ok hE hS h (hbd k (by simp)) (hbd x (by simp))
   case range t x => exact OpRel.ofVal fun v μ' h => range_ok hE hS h (hbd x (by simp))
   case next it isS => exact OpRel.ofVal fun v μ' h => next_ok hS h
   case entry it => exact OpRel.ofV hS fun v h => entry_ok hS h
   case typeAssert x xt asserted ok => exact OpRel.ofV hS fun v h => assert_ok hE h (hbd x (by simp)) w
   case extract x i =>
    split
    ·rename_i vs ht
     refine OpRel.ofV hS fun v h => ?_
     have hb:=hbd x (by simp)
     rw [ht] at hb ⊢
     simp only [Bd_tuple] at hb
     have h' : vs[i]? = some v:=by simpa using h
     refine ⟨?_,hb v (Array.mem_of_getElem? h')⟩
     simp [Instr.extract,h']
    ·trivial
   case call c =>
    obtain ⟨callee,args,argTypes⟩:=c
    have hargs : ∀ x ∈ args.toList.map ev,Bd μ.next x:=by
     intro y hy
     obtain ⟨z,hz,rfl⟩:=List.mem_map.1 hy
     exact hbd z (by simp only [Call.operands,Array.mem_append];right;simpa using hz)
    have hmap : args.map (fun x => conc ι (ev x)) = ((args.toList.map ev).map (conc ι)).toArray:=by apply Array.ext';simp
    cases callee with
    | builtin b =>
     simp only [resolve,hmap,Sem.run_bind,pure_bind,invoke]
     exact builtin_rel hE hS b argTypes type _ _ hargs
    | value f =>
     have hf:=hbd f (by simp [Call.operands])
     simp only [resolve,hmap]
     cases hv : valueCall (ev f) (args.toList.map ev) with
     | none => trivial
     | some q =>
      obtain ⟨g,as⟩:=q
      cases hg : (E.fn g).isSome with
      | false => simp only [hg,cond_false];trivial
      | true =>
       simp only [hg,cond_true]
       unfold valueCall at hv
       split at hv
       ·rename_i g' first captured hev
        simp only [Option.some.injEq,Prod.mk.injEq] at hv
        obtain ⟨rfl,rfl⟩:=hv
        rw [hev] at hf ⊢
        simp only [Bd_func] at hf
        obtain ⟨fn,hfn⟩:=Option.isSome_iff_exists.1 hg
        obtain ⟨h1,h2,h3⟩:=hE.fn g' fn hfn
        refine ⟨rfl,?_,?_⟩
        ·simp only [conc_func,Deferred.ofValue,Sem.run_bind,Sem.run_pure,Result.andThen_ok,invoke,callFunc,run_program,h1,h3,Bool.false_eq_true,if_false]
         rw [if_neg (by cases hbb : fn.body <;> simp_all)]
         simp only [Sem.run_pure]
         congr 2
         apply Array.ext'
         simp
        ·intro y hy
         simp only [List.mem_append] at hy
         rcases hy with (hy | hy) | hy
         ·exact hf.1 y (by simpa using hy)
         ·exact hargs y hy
         ·exact hf.2 y (by simpa using hy)
       ·cases hv
    | invoke r m => trivial
   case defer c =>
    obtain ⟨callee,args,argTypes⟩:=c
    cases callee with
    | value f =>
     have hf:=hbd f (by simp [Call.operands])
     simp only
     split
     ·rename_i fn first captured hev
      rw [hev] at hf
      simp only [Bd_func] at hf
      refine ⟨rfl,?_,?_,?_⟩
      ·simp only [resolve,hev,conc_func,Deferred.ofValue,Sem.run_bind,Sem.run_pure,Result.andThen_ok,concD]
       congr 3
       apply Array.ext'
       simp
      ·intro y hy
       simp only [List.mem_toArray,List.mem_append,List.mem_map] at hy
       rcases hy with hy | ⟨z,hz,rfl⟩
       ·exact hf.1 y (by simpa using hy)
       ·exact hbd z (by simp [Call.operands];right;simpa using hz)
      ·exact hf.2
     ·trivial
    | _ => trivial
   case panic x =>
    split
    ·rename_i t u hu
     refine ⟨rfl,?_,by have:=hbd x (by simp);rwa [hu] at this⟩
     rw [hu]
     simp [Instr.panic]
    ·trivial
end
end Go.Abs
end
section
namespace Go.Abs
def concP (ι : Ren) (e : PanicEntry) : PanicEntry:={ e with v:=conc ι e.v }
structure FrRel (ι : Ren) (N : Nat) (fr : Fr) (a : Act) : Prop where
 size : a.tmps.size = fr.sz
 lim : fr.sz < limit
 tmp : ∀ t,notP (fr.get t) = true → a.tmps.getD t undef = conc ι (fr.get t)∧Bd N (fr.get t)
 df : a.defers = fr.df.map (concD ι)
 bd : ∀ d ∈ fr.df,BdD N d
theorem concD_ext {N : Nat} {ι ι' : Ren} (h : Ext N ι ι') {d : Deferred} (hb : BdD N d) : concD ι' d = concD ι d:=by
 obtain ⟨t,as⟩:=d
 obtain ⟨h1,h2⟩:=hb
 simp only at h1 h2
 unfold concD
 simp only
 congr 1
 ·cases t with
  | fn f c => simp only at h2 ⊢;rw [Array.map_congr_left fun x hx => conc_ext h x (h2 x hx)]
  | collected r => simp only at h2 ⊢;rw [h.loc _ h2]
  | _ => rfl
 ·exact Array.map_congr_left fun x hx => conc_ext h x (h1 x hx)
theorem BdD.mono {N M : Nat} (hl : N ≤ M) {d : Deferred} (hb : BdD N d) : BdD M d:=by
 obtain ⟨t,as⟩:=d
 obtain ⟨h1,h2⟩:=hb
 refine ⟨fun x hx => Bd.mono hl x (h1 x hx),?_⟩
 cases t with
 | fn f c => exact fun x hx => Bd.mono hl x (h2 x hx)
 | collected r => exact Nat.lt_of_lt_of_le h2 hl
 | _ => trivial
section
variable {ι ι' : Ren} {N N' : Nat} {fr fr' : Fr} {a : Act}
theorem FrRel.mono (h : FrRel ι N fr a) (hE : Ext N ι ι') (hN : N ≤ N') : FrRel ι' N' fr a:=by
 refine ⟨h.size,h.lim,fun t hk => ?_,?_,fun d hd => BdD.mono hN (h.bd d hd)⟩
 ·obtain ⟨h1,h2⟩:=h.tmp t hk
  exact ⟨by rw [conc_ext hE _ h2];exact h1,Bd.mono hN _ h2⟩
 ·rw [h.df]
  exact List.map_congr_left fun d hd => (concD_ext hE (h.bd d hd)).symm
theorem get_set {fr : Fr} {d : Nat} {v : Value} (hd : d < limit) (t : Nat) : (fr.set d v).get t = if t = d then v else fr.get t:=by
 unfold Fr.set Fr.get
 by_cases h : t = d
 ·subst h
  rw [if_pos rfl,Tr.get_set_same 40 _ _ _ (by unfold limit at hd;omega)]
  rfl
 ·rw [if_neg h,Tr.get_set_other 40 _ _ _ _ (Ne.symm h)]
theorem FrRel.put (h : FrRel ι N fr a) {dst : Option Tmp} {v : Value} (hp : fr.put dst v = some fr') (hb : Bd N v) : FrRel ι N fr' (a.put dst (conc ι v)):=by
 unfold Fr.put at hp
 cases dst with
 | none => simp at hp;subst hp;exact h
 | some d =>
  simp only at hp
  cases hd : Nat.blt d fr.sz with
  | false => simp [hd] at hp
  | true =>
   simp [hd] at hp
   subst hp
   have hlt : d < fr.sz:=by simpa [Nat.blt_eq] using hd
   have hdl : d < limit:=Nat.lt_trans hlt h.lim
   refine ⟨by simp [Act.put,Fr.set,h.size],h.lim,fun t => ?_,h.df,h.bd⟩
   rw [get_set hdl]
   simp only [Act.put]
   by_cases ht : t = d
   ·subst ht
    intro _
    simp [Array.getD,h.size,hlt,hb]
   ·rw [if_neg ht]
    intro hk
    obtain ⟨h1,h2⟩:=h.tmp t hk
    refine ⟨?_,h2⟩
    rw [← h1]
    simp [Array.getD_eq_getD_getElem?,Array.getElem?_setIfInBounds_ne (Ne.symm ht)]
theorem FrRel.defer (h : FrRel ι N fr a) {d : Deferred} (hb : BdD N d) : FrRel ι N { fr with df:=d :: fr.df } { a with defers:=concD ι d :: a.defers } :=
 ⟨h.size,h.lim,h.tmp,by simp [h.df],fun d' hd => by
  rcases List.mem_cons.1 hd with rfl | hd
  ·exact hb
  ·exact h.bd d' hd⟩
theorem wanted_eq (h : FrRel ι N fr a) (ops : Array Oper) (o : Oper) (hkn : knownA ops fr o = true) : Region.wanted o (yielded ops a.tmps) = wantedA ops fr o:=by
 unfold knownA at hkn
 unfold Region.wanted wantedA
 cases hgu : o.guard with
 | none => rfl
 | some q =>
  obtain ⟨j,want⟩:=q
  rw [hgu] at hkn
  simp only at hkn ⊢
  unfold yielded
  cases hd : (ops[j]?).bind (·.dst) with
  | none => rfl
  | some d =>
   simp only [Option.bind_some]
   rw [hd] at hkn
   obtain ⟨h1,h2⟩:=h.tmp d hkn
   rcases Nat.lt_or_ge d a.tmps.size with hlt | hge
   ·have hg : a.tmps[d]? = some (conc ι (fr.get d)):=by
     rw [Array.getElem?_eq_getElem hlt]
     simp [Array.getD,hlt] at h1
     rw [h1]
    rw [hg]
    cases hv : fr.get d with
    | bool b => cases b <;> cases want <;> simp
    | pointer x => cases x <;> simp
    | slice x l c => cases x <;> simp
    | map x => cases x <;> simp
    | chan x =>
     cases x with
     | none => simp [conc]
     | some l =>
      simp only [conc_chan]
      cases hc : ι.chan l with
      | bool c => exact absurd hc (ι.chan_bool l c)
      | _ => simp
    | _ => simp
   ·have hu : conc ι (fr.get d) = undef:=by rw [← h1];simp [Array.getD,Nat.not_lt.2 hge]
    rw [Array.getElem?_eq_none hge]
    cases hv : fr.get d with
    | bool b => rw [hv] at hu;simp [undef] at hu
    | _ => rfl
end
section
variable {P : Program} {E : Env} {pr : Prot} {w0 : World} {ι : Ren} {μ : Hp} {w : World} (hE : EnvOk P E)
theorem ev_ok (hS : Sim pr w0 E.ng ι μ w) {fr : Fr} {a : Act} (h : FrRel ι μ.next fr a) (x : Operand) (hx : okOpnd E fr.ev x = true) : a.eval x = conc ι (fr.ev x)∧Bd μ.next (fr.ev x):=by
 cases x with
 | tmp t => exact h.tmp t hx
 | const v =>
  have:=conc_plain ι μ.next 4 v hx
  exact ⟨this.1.symm,this.2⟩
 | global g =>
  simp only [okOpnd,Nat.blt_eq] at hx
  obtain ⟨⟨h1,_⟩,h2⟩:=hS.glob g hx
  refine ⟨?_,by simpa [Fr.ev] using h2⟩
  simp [Act.eval,Fr.ev,Ren.addr,h1]
 | func f => simp [Act.eval,Fr.ev]
def EndRel (ι : Ren) (N : Nat) : Ending → Ending → Prop
 | .returned v,.returned v' => v' = conc ι v∧Bd N v
 | .panicked ch,.panicked ch' => ch' = ch.map (concP ι)∧∀ e ∈ ch,Bd N e.v
 | _,_ => False
def CallsOk (P : Program) (pr : Prot) (w0 : World) (ng : Nat) (callF : CallF) : Prop :=
 ∀ f args μ e μ',callF f args μ = some (e,μ') → ∀ ι w,Sim pr w0 ng ι μ w → (∀ x ∈ args,Bd μ.next x) →
  Calls P f (args.map (conc ι)).toArray w fun e' w' => ∃ ι',Ext μ.next ι ι'∧μ.next ≤ μ'.next∧Sim pr w0 ng ι' μ' w'∧EndRel ι' μ'.next e e'
def Goal (pr : Prot) (w0 : World) (ng : Nat) (ι : Ren) (μ : Hp) (Q : Exit → Act → World → Prop) (e : Exit) (fr' : Fr) (μ' : Hp) : Prop :=
 match e with
 | .panic ch => ∀ ι' a' w',Ext μ.next ι ι' → μ.next ≤ μ'.next → Sim pr w0 ng ι' μ' w' → FrRel ι' μ'.next fr' a' → (∀ e ∈ ch,Bd μ'.next e.v) → Q (.panic (ch.map (concP ι'))) a' w'
 | e => ∀ ι' a' w',Ext μ.next ι ι' → μ.next ≤ μ'.next → Sim pr w0 ng ι' μ' w' → FrRel ι' μ'.next fr' a' → Q e a' w'
theorem Goal.weaken {ng : Nat} {Q : Exit → Act → World → Prop} {e : Exit} {fr' : Fr} {μ' μ1 : Hp} {ι1 : Ren} (h : Goal pr w0 ng ι μ Q e fr' μ') (hE : Ext μ.next ι ι1) (hl : μ.next ≤ μ1.next) : Goal pr w0 ng ι1 μ1 Q e fr' μ':=by
 cases e with
 | panic ch => exact fun ι' a' w' h1 h2 h3 h4 h5 => h ι' a' w' (hE.trans h1 hl) (by omega) h3 h4 h5
 | _ => exact fun ι' a' w' h1 h2 h3 h4 => h ι' a' w' (hE.trans h1 hl) (by omega) h3 h4
include hE
end
end Go.Abs
end
section
namespace Go.Abs
theorem ofV_same {μ μ' : Hp} {r : Option Value} {v : Value} (h : ofV μ r = .val v μ') : μ' = μ:=by
 cases r with
 | none => simp [ofV] at h
 | some x => simp [ofV] at h;exact h.2.symm
theorem ofPR_same {μ μ' : Hp} {r : PR Value} {v : Value} (h : ofPR μ r = .val v μ') : μ' = μ:=by
 unfold ofPR at h
 split at h
 ·rename_i x;cases hf : flat x <;> simp [hf] at h;exact h.2.symm
 ·rename_i x;cases hf : flat x <;> simp [hf] at h
 ·simp at h
theorem binOpB_same {P : Program} {E : Env} {op : BinOp} {t : TypeId} {ox oy : Operand} {x y v : Value} {μ μ' : Hp} (h : binOpB P E op t ox oy x y μ = .val v μ') : μ' = μ:=by
 unfold binOpB at h
 split at h
 ·split at h
  ·cases hc : (constOp ox || constOp oy) <;> simp [hc] at h;exact h.2.symm
  ·simp at h
 ·split at h
  ·cases hc : (constOp ox || constOp oy) <;> simp [hc] at h;exact h.2.symm
  ·simp at h
 ·cases hc : (flat x && flat y) with
  | true => rw [hc,cond_true] at h;exact ofPR_same h
  | false =>
   rw [hc,cond_false] at h
   split at h <;> simp at h <;> exact h.2.symm
theorem binOpA_same {P : Program} {E : Env} {op : BinOp} {t : TypeId} {ox oy : Operand} {x y v : Value} {μ μ' : Hp} (h : binOpA P E op t ox oy x y μ = .val v μ') : μ' = μ:=by
 unfold binOpA at h
 split at h
 ·cases h;rfl
 ·exact binOpB_same h
theorem convertA_same {P : Program} {E : Env} {s d : TypeId} {x v : Value} {μ μ' : Hp} (hl : (match E.und d with | some (.slice _) => true | _ => false) = false)
  (h : convertA P E s d x μ = .val v μ') : μ' = μ:=by
 unfold convertA at h
 split at h
 ·simp at h;exact h.2.symm
 ·simp at h;exact h.2.symm
 ·rename_i hd;rw [hd] at hl;simp at hl
 ·split at h <;> simp at h;exact h.2.symm
 ·split at h
  ·split at h <;> simp at h;exact h.2.symm
  ·simp at h
 ·split at h
  ·split at h
   ·split at h <;> simp at h;exact h.2.symm
   ·simp at h
  ·simp at h
 ·exact ofPR_same h
 ·exact ofPR_same h
 ·simp at h
theorem sliceA_same {E : Env} {t : TypeId} {x v : Value} {lo hi mx : Option Value} {μ μ' : Hp} (h : sliceA E t x lo hi mx μ = some (v,μ')) (hn : μ'.next = μ.next) : μ' = μ:=by
 unfold sliceA at h
 split at h
 ·split at h
  ·split at h <;> simp at h;exact h.2.symm
  ·simp at h
 ·split at h
  ·split at h
   ·simp at h;exact h.2.symm
   ·split at h
    ·rename_i k μ1 hnew
     simp at h
     rw [← h.2] at hn
     unfold Hp.new at hnew
     cases hlt : Nat.blt μ.next limit <;> simp [hlt] at hnew
     rw [← hnew.2] at hn
     simp at hn
    ·simp at h
   ·simp at h;exact h.2.symm
  ·simp at h
 ·split at h <;> simp at h;exact h.2.symm
 ·split at h <;> simp at h;exact h.2.symm
 ·simp at h
theorem new_next {μ μ' : Hp} {o : AObj} {k : Nat} (h : μ.new o = some (k,μ')) : μ.next < μ'.next:=by
 unfold Hp.new at h
 cases hlt : Nat.blt μ.next limit <;> simp [hlt] at h
 rw [← h.2];exact Nat.lt_succ_self _
theorem nameD_next {d : Deep} {v : Value} {μ μ' : Hp} (h : nameD d μ = some (v,μ')) : μ' = μ ∨ μ.next < μ'.next:=by
 cases d with
 | val x => simp [nameD] at h;exact .inl h.2.symm
 | flat vs l c =>
  simp only [nameD] at h
  split at h
  ·rename_i hn;simp at h;obtain ⟨_,rfl⟩:=h;exact .inr (new_next hn)
  ·simp at h
 | row vs l c =>
  simp only [nameD] at h
  split at h
  ·rename_i hn;simp at h;obtain ⟨_,rfl⟩:=h;exact .inr (new_next hn)
  ·simp at h
 | rowc vs l c =>
  simp only [nameD] at h
  split at h
  ·rename_i hn;simp at h;obtain ⟨_,rfl⟩:=h;exact .inr (new_next hn)
  ·simp at h
 | void sp =>
  simp only [nameD] at h
  split at h
  ·rename_i hn;simp at h;obtain ⟨_,rfl⟩:=h;exact .inr (new_next hn)
  ·simp at h
 | sl es l =>
  simp only [nameD] at h
  split at h
  ·rename_i hn
   split at h
   ·rename_i hn2;simp at h;obtain ⟨_,rfl⟩:=h;exact .inr (Nat.lt_trans (new_next hn) (new_next hn2))
   ·simp at h
  ·simp at h
 | slv vs l =>
  simp only [nameD] at h
  split at h
  ·rename_i hn
   split at h
   ·rename_i hn2;simp at h;obtain ⟨_,rfl⟩:=h;exact .inr (Nat.lt_trans (new_next hn) (new_next hn2))
   ·simp at h
  ·simp at h
theorem nameAll_next : ∀ {ds : List Deep} {vs : List Value} {μ μ' : Hp},nameAll ds μ = some (vs,μ') → μ' = μ ∨ μ.next < μ'.next
 | [],vs,μ,μ',h => by simp [nameAll] at h;exact .inl h.2.symm
 | d :: ds,vs,μ,μ',h => by
  simp only [nameAll] at h
  split at h
  ·rename_i h1
   split at h
   ·rename_i h2
    simp at h
    obtain ⟨_,rfl⟩:=h
    rcases nameD_next h1 with rfl | h1
    ·exact nameAll_next h2
    ·rcases nameAll_next h2 with rfl | h2
     ·exact .inr h1
     ·exact .inr (Nat.lt_trans h1 h2)
   ·simp at h
  ·simp at h
theorem loadRo_same {E : Env} {t : TypeId} {a : Addr} {ds : List Deep} {v : Value} {μ μ' : Hp} (h : loadRo E t a ds μ = some (v,μ')) (hn : μ'.next = μ.next) : μ' = μ:=by
 have key : μ' = μ ∨ μ.next < μ'.next:=by
  unfold loadRo at h
  split at h
  ·rename_i n _ _ _
   simp only at h
   cases hb : Nat.beq ((List.take n (List.drop a.off ds)).length) n <;> rw [hb] at h <;> simp only [cond_true,cond_false] at h
   ·simp at h
   ·split at h
    ·rename_i hna;simp at h;obtain ⟨_,rfl⟩:=h;exact nameAll_next hna
    ·simp at h
  ·split at h
   ·exact nameD_next h
   ·simp at h
  ·simp at h
 rcases key with h | h
 ·exact h
 ·omega
theorem quiet_same {P : Program} {E : Env} {ev : Operand → Value} {o : Oper} {v : Value} {μ μ' : Hp} (hl : loud E o.op = false) (h : opA P E ev o μ = .val v μ') (hn : μ'.next = μ.next) : μ' = μ:=by
 unfold opA at h
 cases hops : o.op.operands.toList.all (okOpnd E ev) with
 | false => rw [hops,cond_false] at h;simp at h
 | true =>
  rw [hops,cond_true] at h
  obtain ⟨dst,op,type,pos,after,guard⟩:=o
  cases op <;> simp only [loud] at hl <;> simp only at h <;> try (first | contradiction | exact ofV_same h | exact binOpA_same h | (simp at h;exact h.2.symm) | (simp at h;done))
  case pick => split at h <;> simp at h <;> exact h.2.symm
  case load =>
   split at h
   ·split at h
    ·split at h
     ·simp at h;exact h.2.symm
     ·unfold ofVal at h
      split at h
      ·rename_i hs
       simp at h
       obtain ⟨rfl,rfl⟩:=h
       exact loadRo_same hs hn
      ·simp at h
    ·exact ofV_same h
   ·simp at h
  case unOp op t x =>
   cases hf : flat (ev x) <;> rw [hf] at h <;> simp only [cond_true,cond_false] at h
   ·simp at h
   ·exact ofPR_same h
  case convert s d x => exact convertA_same hl h
  case makeInterface => split at h <;> simp at h;exact h.2.symm
  case slice t x lo hi mx =>
   unfold ofVal at h
   split at h
   ·rename_i hs
    simp at h
    obtain ⟨rfl,rfl⟩:=h
    exact sliceA_same hs hn
   ·simp at h
  case fieldAddr =>
   split at h
   ·split at h <;> simp at h;exact h.2.symm
   ·simp at h
  case field => split at h <;> first | exact ofV_same h | (simp at h;done)
  case extract => split at h <;> first | exact ofV_same h | (simp at h;done)
  case call c =>
   obtain ⟨callee,args,argTypes⟩:=c
   cases callee with
   | value f => simp at hl
   | invoke r m => simp at hl
   | builtin b =>
    cases b <;> simp only [builtinA] at h <;> simp only at hl <;> try (first | contradiction | exact ofV_same h)
    all_goals (
     cases hf : (List.map ev args.toList).all flat <;> rw [hf] at h <;> simp only [cond_true,cond_false] at h
     ·simp at h
     ·exact ofPR_same h)
section
variable {P : Program} {E : Env} {pr : Prot} {w0 : World} (hE : EnvOk P E)
theorem put_spec {fr fr1 : Fr} {dst : Option Tmp} {v : Value} (hlim : fr.sz < limit) (h : fr.put dst v = some fr1) : fr1.sz = fr.sz∧fr1.df = fr.df∧(∀ t,dst = some t → fr1.get t = v)∧∀ t,dst ≠ some t → fr1.get t = fr.get t:=by
 unfold Fr.put at h
 cases dst with
 | none => simp at h;subst h;exact ⟨rfl,rfl,by simp,fun _ _ => rfl⟩
 | some d =>
  simp only at h
  cases hd : Nat.blt d fr.sz with
  | false => simp [hd] at h
  | true =>
   simp [hd] at h
   subst h
   have hlt : d < fr.sz:=by simpa [Nat.blt_eq] using hd
   refine ⟨rfl,rfl,fun t ht => ?_,fun t ht => ?_⟩
   ·simp at ht;subst ht;rw [get_set (Nat.lt_trans hlt hlim),if_pos rfl]
   ·rw [get_set (Nat.lt_trans hlt hlim),if_neg (fun e => ht (by rw [e]))]
theorem put_same {frA frB frB1 : Fr} {dst : Option Tmp} {v : Value} (hsz : frA.sz = frB.sz) (h : frB.put dst v = some frB1) : ∃ frA1,frA.put dst v = some frA1:=by
 unfold Fr.put at *
 cases dst with
 | none => exact ⟨_,rfl⟩
 | some d =>
  simp only at *
  rw [hsz]
  cases hd : Nat.blt d frB.sz with
  | false => simp [hd] at h
  | true => exact ⟨_,rfl⟩
structure At (ops : Array Oper) (steps : List Step) (fr : Fr) (L : Nat → Prop) (f : Fr) : Prop where
 sz : f.sz = fr.sz
 df : f.df = fr.df
 yes : ∀ (i : Nat) (o : Oper) (s : Step) (t : Nat),ops[i]? = some o → steps[i]? = some s → o.dst = some t → L i → f.get t = s.v
 no : ∀ (t : Nat),(∀ (i : Nat) (o : Oper),ops[i]? = some o → o.dst = some t → ¬ L i) → f.get t = fr.get t
theorem At.put {ops : Array Oper} {steps : List Step} {fr f f1 : Fr} {L L' : Nat → Prop} (hdst : ∀ (i j : Nat) (oi oj : Oper) (d : Nat),ops[i]? = some oi → ops[j]? = some oj → oi.dst = some d → oj.dst = some d → i = j)
  (hlim : fr.sz < limit) (h : At ops steps fr L f) {j : Nat} {o : Oper} {s : Step} (ho : ops[j]? = some o) (hs : steps[j]? = some s) (hp : f.put o.dst s.v = some f1)
  (hL : ∀ i,L' i ↔ L i ∨ i = j) : At ops steps fr L' f1:=by
 obtain ⟨h1,h2,h3,h4⟩:=put_spec (by rw [h.sz];exact hlim) hp
 refine ⟨h1.trans h.sz,h2.trans h.df,fun i o' s' t hi hs' hd hl => ?_,fun t hno => ?_⟩
 ·by_cases hij : i = j
  ·subst hij
   rw [ho] at hi;simp at hi;subst hi
   rw [hs] at hs';simp at hs';subst hs'
   exact h3 t hd
  ·rw [h4 t fun e => hij (hdst i j o' o t hi ho hd e)]
   exact h.yes i o' s' t hi hs' hd (((hL i).1 hl).resolve_right hij)
 ·have hne : o.dst ≠ some t:=fun e => hno j o ho e ((hL j).2 (.inr rfl))
  rw [h4 t hne]
  exact h.no t fun i o' hi hd hl => hno i o' hi hd ((hL i).2 (.inl hl))
theorem frames {callF : CallF} {ops : Array Oper} {fr : Fr} {μ : Hp} {steps : List Step} {heaps : List Hp} {fr' : Fr} (hO : OpenOk E ops) (hlim : fr.sz < limit)
  (hP : Pass P E callF ops ops.toList fr μ 0 steps heaps fr') : ∀ j,j ≤ ops.size → At ops steps fr (fun i => i < j) (frAt steps fr' j):=by
 intro j
 induction j with
 | zero => intro _;rw [hP.first];exact ⟨rfl,rfl,fun i o s t _ _ _ h => absurd h (by omega),fun _ _ => rfl⟩
 | succ j ih =>
  intro hj
  have ho : ops[j]? = some ops[j]:=Array.getElem?_eq_getElem (by omega)
  have hs : ∃ s,steps[j]? = some s:=⟨_,List.getElem?_eq_getElem (by rw [hP.len];simp;omega)⟩
  obtain ⟨s,hs⟩:=hs
  obtain ⟨h1,h2⟩:=hP.put j ops[j] s (by rw [Array.getElem?_toList];exact ho) hs
  have hA:=ih (by omega)
  rw [← h1] at hA
  exact hA.put hO.dst hlim ho hs h2 fun i => by omega
theorem bef_lt {ops : Array Oper} (hO : OpenOk E ops) : ∀ (j i : Nat),((befA ops.toList []).getD j 0).testBit i = true → i < j:=by
 intro j
 induction j using Nat.strongRecOn with
 | _ j ih =>
  intro i h
  obtain ⟨o,ho,e,he,hb,h⟩:=befA_bit ops h
  have hl:=hO.edge j o ho e he hb
  rcases h with rfl | ⟨hlt,h⟩
  ·exact hl
  ·exact Nat.lt_trans (ih e.on hlt i h) hlt
theorem look_same {ops : Array Oper} {steps : List Step} {fr f g : Fr} {L : Nat → Bool} (hO : OpenOk E ops) (hlen : steps.length = ops.size) (hcl : Closed ops L) {j : Nat} {oj : Oper} (hj : ops[j]? = some oj) (hun : L j = false)
  (hrd : ∀ o,ops[j]? = some o → ∀ e ∈ o.after,Region.binds .any e = true → L e.on = true) (hf : At ops steps fr (fun i => L i = true) f) (hg : At ops steps fr (fun i => i < j) g) {t : Nat} (ht : t ∈ oj.looksAt ops) : f.get t = g.get t:=by
 by_cases hex : ∃ (i : Nat) (oi : Oper),ops[i]? = some oi∧oi.dst = some t
 ·obtain ⟨i,oi,hi,hd⟩:=hex
  obtain ⟨hne,hbit⟩:=hO.look i j oi oj t hi hj hd ht
  have hs : ∃ s,steps[i]? = some s:=⟨_,List.getElem?_eq_getElem (by rw [hlen];exact (Array.getElem?_eq_some_iff.1 hi).1)⟩
  obtain ⟨s,hs⟩:=hs
  rcases hbit with hb | hb
  ·rw [hf.yes i oi s t hi hs hd (bef_listed hcl j i hrd hb),hg.yes i oi s t hi hs hd (bef_lt hO j i hb)]
  ·have hlt:=bef_lt hO i j hb
   have hnl : L i = false:=by
    cases hl : L i with
    | false => rfl
    | true => rw [bef_listed hcl i j (hcl i hl) hb] at hun;simp at hun
   rw [hf.no t fun i' o' hi' hd' => by rw [hO.dst i' i o' oi t hi' hi hd' hd,hnl];simp,hg.no t fun i' o' hi' hd' => by have:=hO.dst i' i o' oi t hi' hi hd' hd;omega]
 ·rw [hf.no t fun i o hi hd => absurd ⟨i,o,hi,hd⟩ hex,hg.no t fun i o hi hd => absurd ⟨i,o,hi,hd⟩ hex]
theorem wantedA_congr {ops : Array Oper} {f g : Fr} {o : Oper} (h : ∀ t ∈ o.looksAt ops,f.get t = g.get t) : wantedA ops f o = wantedA ops g o:=by
 unfold wantedA
 cases hg : o.guard with
 | none => rfl
 | some q =>
  obtain ⟨j,want⟩:=q
  simp only
  cases hd : (ops[j]?).bind (·.dst) with
  | none => rfl
  | some d => simp only;rw [h d (by simp [Oper.looksAt,hg,hd])]
theorem knownA_congr {ops : Array Oper} {f g : Fr} {o : Oper} (h : ∀ t ∈ o.looksAt ops,f.get t = g.get t) : knownA ops f o = knownA ops g o:=by
 unfold knownA
 cases hg : o.guard with
 | none => rfl
 | some q =>
  obtain ⟨j,want⟩:=q
  simp only
  cases hd : (ops[j]?).bind (·.dst) with
  | none => rfl
  | some d => simp only;rw [h d (by simp [Oper.looksAt,hg,hd])]
theorem ev_congr {ops : Array Oper} {f g : Fr} {o : Oper} (h : ∀ t ∈ o.looksAt ops,f.get t = g.get t) : ∀ x ∈ o.op.operands,f.ev x = g.ev x:=by
 intro x hx
 cases x with
 | tmp t => exact h t (by simp only [Oper.looksAt];exact List.mem_append_left _ (List.mem_filterMap.2 ⟨.tmp t,by simpa using hx,rfl⟩))
 | const v => rfl
 | global n => rfl
 | func n => rfl
theorem ready_nil {ops : Array Oper} {listed : Array Bool} (hO : OpenOk E ops) (hsz : listed.size = ops.size) (h : Region.ready .any ops listed = []) : ∀ j,j < ops.size → listed.getD j false = true:=by
 intro j
 induction j using Nat.strongRecOn with
 | _ j ih =>
  intro hj
  cases hl : listed.getD j false with
  | true => rfl
  | false =>
   exfalso
   have ho : ops[j]? = some ops[j]:=Array.getElem?_eq_getElem hj
   have hm : j ∈ Region.ready .any ops listed:=by
    rw [mem_ready]
    refine ⟨by simpa [Array.getD,hsz,hj] using hl,_,ho,fun e he hb => ?_⟩
    have hlt:=hO.edge j _ ho e he hb
    exact ih e.on hlt (by omega)
   rw [h] at hm
   simp at hm
theorem heapsOk_spec {o : Oper} {s : Step} {lo hi : Nat} : ∀ (hs : List Hp) (k : Nat),heapsOk P E o s lo hi hs k = true → ∀ i μ,hs[i]? = some μ → lo ≤ k + i → k + i ≤ hi → sameAt P E o s μ = true
 | [],k,h,i,μ,hi',_,_ => by simp at hi'
 | m :: r,k,h,i,μ,hi',h1,h2 => by
  simp only [heapsOk,Bool.and_eq_true,Bool.or_eq_true,Nat.blt_eq] at h
  cases i with
  | zero =>
   simp at hi';subst hi'
   rcases h.1 with (h | h) | h
   ·omega
   ·omega
   ·exact h
  | succ i => exact heapsOk_spec r (k + 1) h.2 i μ (by simpa using hi') (by omega) (by omega)
theorem quietOk_spec {b : List Nat} {ls : List Bool} {heaps : List Hp} : ∀ (l : List Oper) (ss : List Step) (k : Nat),quietOk P E b ls heaps l ss k = true → ∀ j o s,l[j]? = some o → ss[j]? = some s → quietAt P E b ls heaps o s (k + j) = true
 | [],_,k,h,j,o,s,hj,_ => by simp at hj
 | _ :: _,[],k,h,j,o,s,_,hs => by simp at hs
 | o' :: l,s' :: ss,k,h,j,o,s,hj,hs => by
  simp only [quietOk,Bool.and_eq_true] at h
  cases j with
  | zero => simp at hj hs;subst hj;subst hs;exact h.1
  | succ j =>
   have:=quietOk_spec l ss (k + 1) h.2 j o s (by simpa using hj) (by simpa using hs)
   rw [show k + (j + 1) = k + 1 + j by omega]
   exact this
include hE
theorem drawn_go {callF : CallF} (hC : CallsOk P pr w0 E.ng callF) {ops : Array Oper} {Q : Exit → Act → World → Prop} {ι : Ren} {μ : Hp} {fr : Fr} {fr' : Fr} {μ' : Hp} {steps : List Step} {heaps : List Hp}
  (hO : OpenOk E ops) (hlim : fr.sz < limit) (hP : Pass P E callF ops ops.toList fr μ 0 steps heaps fr') (hq : quietOk P E (befA ops.toList []) (loudL E ops.toList steps) heaps ops.toList steps 0 = true)
  (hlast : heaps.getLast? = some μ') (hG : Goal pr w0 E.ng ι μ Q .normal fr' μ') :
  ∀ (fuel : Nat) (listed : Array Bool) (a : Act) (w : World),listed.size = ops.size → fuel + countB (List.replicate ops.size true) (fun i => listed.getD i false) 0 = ops.size → Closed ops (fun i => listed.getD i false) →
   (∃ ι1 f μ1,heaps[countB (loudL E ops.toList steps) (fun i => listed.getD i false) 0]? = some μ1∧Sim pr w0 E.ng ι1 μ1 w∧Ext μ.next ι ι1∧μ.next ≤ μ1.next∧FrRel ι1 μ1.next f a∧At ops steps fr (fun i => listed.getD i false = true) f) →
   wpAny P .any ops Q fuel listed a w:=by
 have hlen : steps.length = ops.size:=by simpa using hP.len
 have hll : (loudL E ops.toList steps).length = ops.size:=by simp [loudL,hlen]
 have hend : ∀ (listed : Array Bool) (a : Act) (w : World),(∀ j,j < ops.size → listed.getD j false = true) →
   (∃ ι1 f μ1,heaps[countB (loudL E ops.toList steps) (fun i => listed.getD i false) 0]? = some μ1∧Sim pr w0 E.ng ι1 μ1 w∧Ext μ.next ι ι1∧μ.next ≤ μ1.next∧FrRel ι1 μ1.next f a∧At ops steps fr (fun i => listed.getD i false = true) f) →
   Q .normal a w:=by
  rintro listed a w hall ⟨ι1,f,μ1,hμ1,hS,hx,hle,hF,hA⟩
  have hc : countB (loudL E ops.toList steps) (fun i => listed.getD i false) 0 = heaps.length - 1:=by
   rw [hP.hlen,Nat.add_sub_cancel]
   refine countB_congr _ _ _ _ fun k hk => ?_
   have hk' : k < ops.size:=by rw [← hll];exact (List.getElem?_eq_some_iff.1 hk).1
   simpa using hall k hk'
  rw [hc,← List.getLast?_eq_getElem?,hlast] at hμ1
  simp at hμ1;subst hμ1
  have hA':=frames hO hlim hP ops.size (Nat.le_refl _)
  have hfr' : frAt steps fr' ops.size = fr':=by unfold frAt;rw [List.getElem?_eq_none (by omega)];rfl
  rw [hfr'] at hA'
  have hget : ∀ t,f.get t = fr'.get t:=by
   intro t
   by_cases hex : ∃ (i : Nat) (oi : Oper),ops[i]? = some oi∧oi.dst = some t
   ·obtain ⟨i,oi,hi,hd⟩:=hex
    have hlt : i < ops.size:=(Array.getElem?_eq_some_iff.1 hi).1
    have hs : steps[i]? = some steps[i]:=List.getElem?_eq_getElem (by omega)
    rw [hA.yes i oi _ t hi hs hd (hall i hlt),hA'.yes i oi _ t hi hs hd hlt]
   ·rw [hA.no t fun i o hi hd => absurd ⟨i,o,hi,hd⟩ hex,hA'.no t fun i o hi hd => absurd ⟨i,o,hi,hd⟩ hex]
  refine hG ι1 a w hx hle hS ⟨?_,?_,fun t => ?_,?_,fun d hd => ?_⟩
  ·rw [hF.size,hA.sz,hA'.sz]
  ·rw [hA'.sz];exact hlim
  ·rw [← hget t];exact hF.tmp t
  ·rw [hF.df,hA.df,hA'.df]
  ·exact hF.bd d (by rw [hA.df,← hA'.df];exact hd)
 intro fuel
 induction fuel with
 | zero =>
  intro listed a w hsz hcnt hcl hI
  have hall : ∀ j,j < ops.size → listed.getD j false = true:=fun j hj => by simpa using countB_full ops.size _ 0 (by simpa using hcnt) j hj
  refine ⟨?_,hend listed a w hall hI⟩
  cases hr : Region.ready .any ops listed with
  | nil => rfl
  | cons j r =>
   exfalso
   have hm : j ∈ Region.ready .any ops listed:=by rw [hr];simp
   rw [mem_ready] at hm
   obtain ⟨h0,o,ho,_⟩:=hm
   have hj : j < ops.size:=(Array.getElem?_eq_some_iff.1 ho).1
   have:=hall j hj
   simp [Array.getD,hsz,hj] at this h0
   rw [this] at h0
   simp at h0
 | succ fuel ih =>
  intro listed a w hsz hcnt hcl hI
  refine ⟨fun hr => hend listed a w (ready_nil hO hsz hr) hI,fun j hj => ?_⟩
  rw [mem_ready] at hj
  obtain ⟨h0,o,ho,hed⟩:=hj
  have hlt : j < ops.size:=(Array.getElem?_eq_some_iff.1 ho).1
  have hun : listed.getD j false = false:=by simpa [Array.getD,hsz,hlt] using h0
  obtain ⟨ι1,f,μ1,hμ1,hS,hx,hle,hF,hA⟩:=hI
  have hs : steps[j]? = some steps[j]:=List.getElem?_eq_getElem (by omega)
  generalize steps[j] = s at hs
  obtain ⟨hp1,hp2⟩:=hP.put j o s (by simpa using ho) hs
  have hAj:=frames hO hlim hP j (by omega)
  rw [← hp1] at hAj
  have hrd : ∀ o',ops[j]? = some o' → ∀ e ∈ o'.after,Region.binds .any e = true → listed.getD e.on false = true:=by
   intro o' ho' e he hb
   rw [ho] at ho';simp at ho';subst ho'
   exact hed e he hb
  have hlook : ∀ t ∈ o.looksAt ops,f.get t = s.fr.get t:=fun t ht => look_same hO hlen hcl ho hun hrd hA hAj ht
  have hlsj : (loudL E ops.toList steps)[j]? = some (loud E o.op && s.on):=by
   have ho' : ops.toList[j]? = some o:=by simpa using ho
   simp only [loudL,List.getElem?_zipWith,ho',hs]
  have hL' : ∀ k,k ≠ j → (listed.setIfInBounds j true).getD k false = listed.getD k false:=fun k hk => getD_set_ne false (Ne.symm hk)
  have hLj : (listed.setIfInBounds j true).getD j false = true:=by simp [Array.getD,hsz,hlt]
  have hcount:=countB_one (loudL E ops.toList steps) (fun i => listed.getD i false) (fun i => (listed.setIfInBounds j true).getD i false) 0 j (by simpa using hun) (by simpa using hLj) (fun k hk => by simpa using (hL' k hk).symm)
  rw [hlsj,Option.getD_some] at hcount
  have hnext : ∀ ι2 μ2 w2,heaps[countB (loudL E ops.toList steps) (fun i => listed.getD i false) 0 + (bif (loud E o.op && s.on) then 1 else 0)]? = some μ2 → Sim pr w0 E.ng ι2 μ2 w2 → Ext μ1.next ι1 ι2 → μ1.next ≤ μ2.next → Bd μ2.next s.v →
    wpAny P .any ops Q fuel (listed.setIfInBounds j true) (a.put o.dst (conc ι2 s.v)) w2:=by
   intro ι2 μ2 w2 hh hS2 hx2 hl2 hb2
   refine ih _ _ _ (by simp [hsz]) ?_ ?_ ?_
   ·have:=countB_one (List.replicate ops.size true) (fun i => listed.getD i false) (fun i => (listed.setIfInBounds j true).getD i false) 0 j (by simpa using hun) (by simpa using hLj) (fun k hk => by simpa using (hL' k hk).symm)
    rw [List.getElem?_replicate,if_pos hlt] at this
    simp only [Option.getD_some,cond_true] at this
    omega
   ·intro i hi o' ho' e he hb
    by_cases hij : i = j
    ·subst hij;exact getD_set_true (hrd o' ho' e he hb)
    ·exact getD_set_true (hcl i (by have:=hL' i hij;simp only at hi ⊢;rw [← this];exact hi) o' ho' e he hb)
   ·obtain ⟨f2,hf2⟩:=put_same (by rw [hA.sz,hAj.sz]) hp2
    refine ⟨ι2,f2,μ2,by rw [hcount];exact hh,hS2,hx.trans hx2 hle,by omega,(hF.mono hx2 hl2).put hf2 hb2,hA.put hO.dst hlim ho hs hf2 fun i => ?_⟩
    by_cases hij : i = j
    ·subst hij;simp only [hLj,or_true]
    ·rw [hL' i hij];simp [hij]
  obtain ⟨hoff,⟨hkn,hon⟩,hitem⟩:=hP.item j o s (by simpa using ho) hs
  unfold wpOp
  simp only [ho]
  rw [wanted_eq hF ops o (by rw [knownA_congr hlook];exact hkn),wantedA_congr hlook,← hon]
  cases hson : s.on with
  | false =>
   simp only [Bool.false_eq_true,if_false]
   have:=hnext ι1 μ1 w (by simpa [hson] using hμ1) hS (Ext.refl _ _) (Nat.le_refl _) (by rw [hoff hson];simp)
   rw [hoff hson,conc_undef] at this
   exact this
  | true =>
   simp only [if_true]
   left
   have hrel:=op_rel (ng:=E.ng) hE hS o a.eval s.fr.ev (fun x hx hok => by
    rw [← ev_congr hlook x hx]
    refine ev_ok hS hF x ?_
    cases x with
    | tmp t => simp only [okOpnd] at hok ⊢;rw [ev_congr hlook _ hx];exact hok
    | _ => exact hok)
   obtain ⟨m,hm,hitem⟩:=hitem hson
   unfold Oper.wp
   rcases hitem with ⟨hquiet,hitem⟩ | ⟨hloud,μ2,hμ2,hitem⟩
   ·-- a quiet operation: the same in this heap
    have hop : opA P E s.fr.ev o μ1 = .val s.v μ1:=by
     have hqa:=quietOk_spec _ _ 0 hq j o s (by simpa using ho) hs
     unfold quietAt at hqa
     simp only [hquiet,hson,Bool.not_true,Bool.or_self,Bool.false_or,Nat.zero_add,Bool.or_eq_true,Bool.and_eq_true] at hqa
     have hlo : countB (loudL E ops.toList steps) (fun i => ((befA ops.toList []).getD j 0).testBit i) 0 ≤ countB (loudL E ops.toList steps) (fun i => listed.getD i false) 0 :=
      countB_mono _ _ _ _ fun k _ hk => by simp only [Nat.zero_add] at hk ⊢;exact bef_listed hcl j k hrd hk
     have hhi : countB (loudL E ops.toList steps) (fun i => listed.getD i false) 0 ≤ countB (loudL E ops.toList steps) (fun i => !((befA ops.toList []).getD i 0).testBit j) 0 :=
      countB_mono _ _ _ _ fun k _ hk => by
       simp only [Nat.zero_add] at hk ⊢
       cases hb : ((befA ops.toList []).getD k 0).testBit j with
       | false => rfl
       | true => have:=bef_listed hcl k j (hcl k hk) hb;rw [hun] at this;simp at this
     rcases hqa with ⟨h1,h2⟩ | hqa
     ·have h1:=beq_sound h1
      have h2:=beq_sound h2
      have hk:=hP.k j s hs
      have : countB (loudL E ops.toList steps) (fun i => listed.getD i false) 0 = countB (loudL E ops.toList steps) (fun i => decide (i < j)) 0:=by omega
      rw [this,hm] at hμ1
      simp at hμ1;subst hμ1
      obtain ⟨m',h3,h4⟩:=hitem
      rw [h3,quiet_same hquiet h3 h4]
     ·have:=heapsOk_spec heaps 0 hqa _ μ1 hμ1 (by omega) (by omega)
      unfold sameAt at this
      split at this
      ·rename_i v m' h3
       simp only [Bool.and_eq_true] at this
       rw [h3,quiet_same hquiet h3 (beq_sound this.1),eqV_sound _ _ _ this.2]
      ·simp at this
    rw [hop] at hrel
    obtain ⟨ι2,w2,hr,hS2,hx2,hl2,hb2⟩:=hrel
    have:=hnext ι2 μ1 w2 (by simpa [hquiet] using hμ1) hS2 hx2 hl2 hb2
    rcases hr with hr | ⟨hr,hv⟩
    ·rw [hr];exact this
    ·rw [hr];rw [hv,conc_undef] at this;exact this
   ·-- a loud one: its turn has come
    have hk : countB (loudL E ops.toList steps) (fun i => listed.getD i false) 0 = countB (loudL E ops.toList steps) (fun i => decide (i < j)) 0:=by
     refine countB_congr _ _ _ _ fun k hk => ?_
     simp only [Nat.zero_add]
     have hkl : k < ops.size:=by rw [← hll];exact (List.getElem?_eq_some_iff.1 hk).1
     have hok : ops.toList[k]? = some ops[k]:=by simp [hkl]
     have hok' : ops[k]? = some ops[k]:=by simp [hkl]
     have hkloud : loud E ops[k].op = true:=by
      simp only [loudL,List.getElem?_zipWith,hok] at hk
      have hsk : steps[k]? = some steps[k]:=List.getElem?_eq_getElem (by omega)
      rw [hsk] at hk
      simp at hk
      exact hk.1
     rcases Nat.lt_trichotomy k j with hkj | hkj | hkj
     ·rw [bef_listed hcl j k hrd (hO.ord k j _ _ hok' ho hkloud hloud hkj)];simp [hkj]
     ·subst hkj;rw [hun];simp
     ·have : listed.getD k false = false:=by
       cases hb : listed.getD k false with
       | false => rfl
       | true =>
        have:=bef_listed hcl k j (hcl k hb) (hO.ord j k _ _ ho hok' hloud hkloud hkj)
        rw [hun] at this
        simp at this
      rw [this]
      simp
      omega
    rw [hk,hm] at hμ1
    simp at hμ1;subst hμ1
    have hh : heaps[countB (loudL E ops.toList steps) (fun i => listed.getD i false) 0 + (bif (loud E o.op && s.on) then 1 else 0)]? = some μ2:=by
     rw [hk];simp only [hloud,hson,Bool.and_self,cond_true];exact hμ2
    rcases hitem with hop | ⟨g,args,m',hop,hc⟩
    ·rw [hop] at hrel
     obtain ⟨ι2,w2,hr,hS2,hx2,hl2,hb2⟩:=hrel
     have:=hnext ι2 μ2 w2 hh hS2 hx2 hl2 hb2
     rcases hr with hr | ⟨hr,hv⟩
     ·rw [hr];exact this
     ·rw [hr];rw [hv,conc_undef] at this;exact this
    ·rw [hop] at hrel
     obtain ⟨hm',hr,hb⟩:=hrel
     subst hm'
     rw [hr]
     refine (hC g args _ _ _ hc ι1 w hS hb).mono ?_
     rintro e' w' ⟨ι2,hx2,hl2,hS2,hend'⟩
     cases e' with
     | returned v' =>
      obtain ⟨rfl,hbv⟩:=hend'
      exact hnext ι2 μ2 w' hh hS2 hx2 hl2 hbv
     | panicked ch => exact hend'.elim
     | outgrown => exact hend'.elim
theorem drawn_ok {callF : CallF} (hC : CallsOk P pr w0 E.ng callF) {ops : Array Oper} {Q : Exit → Act → World → Prop} {ι : Ren} {μ : Hp} {w : World} {fr : Fr} {a : Act} {fr' : Fr} {μ' : Hp}
  (h : drawnA P E callF ops fr μ = some (fr',μ')) (hS : Sim pr w0 E.ng ι μ w) (hF : FrRel ι μ.next fr a) (hG : Goal pr w0 E.ng ι μ Q .normal fr' μ') :
  wpAny P .any ops Q ops.size (Array.replicate ops.size false) a w:=by
 unfold drawnA at h
 simp only at h
 cases hopen : openOk E ops (befA ops.toList []) with
 | false => simp [hopen] at h
 | true =>
  rw [hopen,cond_true] at h
  cases hst : stepsA P E callF ops ops.toList fr μ 0 with
  | none => simp [hst] at h
  | some q =>
   obtain ⟨steps,heaps,fr1⟩:=q
   simp only [hst] at h
   cases hq : quietOk P E (befA ops.toList []) (loudOn E ops steps) heaps ops.toList steps 0 with
   | false => simp [hq] at h
   | true =>
    rw [hq,cond_true,Option.map_eq_some_iff] at h
    obtain ⟨m,hlast,hm⟩:=h
    simp only [Prod.mk.injEq] at hm
    obtain ⟨rfl,rfl⟩:=hm
    have hP:=steps_pass _ _ _ _ _ _ _ hst
    have hnone : ∀ k,(Array.replicate ops.size false).getD k false = false:=fun k => by
     by_cases hk : k < ops.size <;> simp [Array.getD,hk]
    refine drawn_go hE hC (openOk_spec hopen) hF.lim hP hq hlast hG ops.size _ a w (by simp) ?_ ?_ ⟨ι,fr,μ,?_,hS,Ext.refl _ _,Nat.le_refl _,hF,?_⟩
    ·rw [countB_none _ _ _ fun k => by rw [Nat.zero_add];exact hnone k];rfl
    ·intro i hi;simp only [hnone] at hi;simp at hi
    ·rw [countB_none _ _ _ fun k => by rw [Nat.zero_add];exact hnone k];exact hP.hd
    ·exact ⟨rfl,rfl,fun i o s t _ _ _ hl => by rw [hnone] at hl;simp at hl,fun _ _ => rfl⟩
end
end Go.Abs
end
section
namespace Go.Abs
section
variable {P : Program} {E : Env} {pr : Prot} {w0 : World} (hE : EnvOk P E) (hmix : P.follows .mixedOrders = true)
abbrev Sums:=FuncId → Option (List Value → Hp → Option (Ending × Hp))
def SumsOk (P : Program) (pr : Prot) (w0 : World) (ng : Nat) (S : Sums) : Prop :=
 ∀ f s,S f = some s → ∀ args μ e μ',s args μ = some (e,μ') → ∀ ι w,Sim pr w0 ng ι μ w → (∀ x ∈ args,Bd μ.next x) →
  Calls P f (args.map (conc ι)).toArray w fun e' w' => ∃ ι',Ext μ.next ι ι'∧μ.next ≤ μ'.next∧Sim pr w0 ng ι' μ' w'∧EndRel ι' μ'.next e e'
theorem fillArgs_get : ∀ (args : List Value) (i : Nat) (t : Tr Value) (k : Nat),i + args.length < limit → (fillArgs args i t).get k = if i ≤ k∧k < i + args.length then args[k - i]? else t.get k
 | [],i,t,k,h => by simp [fillArgs];intro h1 h2;omega
 | v :: vs,i,t,k,h => by
  simp only [List.length_cons] at h
  simp only [fillArgs,fillArgs_get vs (i + 1) _ k (by omega),List.length_cons]
  by_cases hk : k = i
  ·subst hk
   rw [if_neg (by omega),if_pos (by omega),Tr.get_set_same 40 _ _ _ (by unfold limit at h;omega)]
   simp
  ·rw [Tr.get_set_other 40 _ _ _ _ (Ne.symm hk)]
   by_cases hin : i + 1 ≤ k∧k < i + 1 + vs.length
   ·rw [if_pos hin,if_pos (by omega),show k - i = (k - (i + 1)) + 1 by omega];simp
   ·rw [if_neg hin,if_neg (by omega)]
theorem enter_ok {ι : Ren} {N : Nat} {fn : Func} {args : List Value} {fr : Fr} (h : Fr.enter fn args = some fr) (hb : ∀ x ∈ args,Bd N x) :
  FrRel ι N fr { tmps:=(args.map (conc ι)).toArray ++ Array.replicate (fn.ntmps - (args.map (conc ι)).toArray.size) undef,defers:=[] }:=by
 unfold Fr.enter at h
 cases hc : (Nat.ble args.length fn.ntmps && Nat.blt fn.ntmps limit) with
 | false => simp [hc] at h
 | true =>
  simp [hc] at h
  subst h
  simp only [Bool.and_eq_true] at hc
  have h1:=Nat.le_of_ble_eq_true hc.1
  have h2 : fn.ntmps < limit:=by have:=hc.2;simpa [Nat.blt_eq] using this
  refine ⟨by simp;omega,h2,fun t _ => ?_,rfl,by simp⟩
  have hg : ({ t:=fillArgs args 0 .e,sz:=fn.ntmps,df:=[],d:=undef } : Fr).get t = (args[t]?).getD undef:=by
   simp only [Fr.get,fillArgs_get args 0 .e t (by omega),Nat.zero_le,true_and,Nat.zero_add,Nat.sub_zero]
   split
   ·rfl
   ·rename_i hlt
    rw [List.getElem?_eq_none (by omega)]
    rfl
  rw [hg]
  rcases Nat.lt_or_ge t args.length with hlt | hge
  ·have hm : args[t]? = some args[t]:=List.getElem?_eq_getElem hlt
   rw [hm]
   refine ⟨?_,hb _ (List.getElem_mem hlt)⟩
   simp [Array.getD_eq_getD_getElem?,Array.getElem?_append,hlt]
  ·rw [List.getElem?_eq_none hge]
   refine ⟨?_,by simp⟩
   simp only [Option.getD_none,conc_undef]
   simp [Array.getD_eq_getD_getElem?,Array.getElem?_append,Nat.not_lt.2 hge,Array.getElem?_replicate]
   split <;> rfl
def resF (tmps : Array Value) (r : ResultVar) : Sem Value :=
 match r with
 | .tmp t => pure (tmps.getD t undef)
 | .cell p t => do loadVar t (← asAddr (tmps.getD p undef))
theorem results_eq (fn : Func) (tmps : Array Value) : results fn tmps = (do
  let vs ← fn.results.mapM (resF tmps)
  pure (if h : vs.size = 1 then vs[0] else .tuple vs)):=by
 unfold results
 congr 2
include hE
theorem results_ok {ι : Ren} {μ : Hp} {w : World} {fr : Fr} {a : Act} (hS : Sim pr w0 E.ng ι μ w) (hF : FrRel ι μ.next fr a) {fn : Func} {vs : List Value} (h : resultsA E fr μ fn.results.toList = some vs) :
  (results fn a.tmps).run P w = .ok (conc ι (packed vs)) w∧Bd μ.next (packed vs):=by
 have key : ∀ (l : List ResultVar) (vs : List Value),resultsA E fr μ l = some vs → (l.mapM (resF a.tmps)).run P w = .ok (vs.map (conc ι)) w∧∀ v ∈ vs,Bd μ.next v:=by
  intro l
  induction l with
  | nil => intro vs h;simp [resultsA] at h;subst h;simp
  | cons r rest ih =>
   intro vs h
   cases r with
   | tmp t =>
    simp only [resultsA] at h
    cases hk : notP (fr.get t) with
    | false => simp [hk] at h
    | true =>
    rw [hk,cond_true,Option.map_eq_some_iff] at h
    obtain ⟨vs',h',rfl⟩:=h
    obtain ⟨h1,h2⟩:=ih vs' h'
    obtain ⟨h3,h4⟩:=hF.tmp t hk
    refine ⟨?_,?_⟩
    ·simp only [List.mapM_cons,Sem.run_bind,resF,Sem.run_pure,Result.andThen_ok,h1,h3,List.map_cons]
    ·intro v hv
     rcases List.mem_cons.1 hv with rfl | hv
     ·exact h4
     ·exact h2 v hv
   | cell p t =>
    simp only [resultsA] at h
    split at h
    ·rename_i ad had
     obtain ⟨h3,h4⟩:=hF.tmp p (by rw [had];rfl)
     cases hl : loadA E t ad μ with
     | none => simp [hl] at h
     | some v =>
      cases hr : resultsA E fr μ rest with
      | none => simp [hl,hr] at h
      | some vs' =>
       simp [hl,hr] at h
       subst h
       obtain ⟨h1,h2⟩:=ih vs' hr
       obtain ⟨g1,g2⟩:=load_ok hE hS hl
       rw [had,conc_ptr] at h3
       have g3 : (loadVar t (ι.addr ad)).run P w = .ok (conc ι v) w:=g1
       have g4 : (resF a.tmps (.cell p t)).run P w = .ok (conc ι v) w:=by
        simp only [resF,h3,asAddr,pure_bind]
        exact g3
       refine ⟨?_,?_⟩
       ·simp only [List.mapM_cons,Sem.run_bind,g4,Sem.run_pure,Result.andThen_ok,h1,List.map_cons]
       ·intro v' hv
        rcases List.mem_cons.1 hv with rfl | hv
        ·exact g2
        ·exact h2 v' hv
    ·cases h
 obtain ⟨h1,h2⟩:=key _ _ h
 have h3 : (fn.results.mapM (resF a.tmps)).run P w = .ok (vs.map (conc ι)).toArray w:=by
  rw [Array.mapM_eq_mapM_toList]
  simp only [Sem.run_map,h1,Result.andThen_ok]
 refine ⟨?_,?_⟩
 ·rw [results_eq]
  simp only [Sem.run_bind,h3,Result.andThen_ok,Sem.run_pure]
  congr 1
  match vs with
  | [] => simp [packed]
  | [v] => simp [packed]
  | v :: u :: r => simp [packed]
 ·match vs,h2 with
  | [],_ => simp [packed]
  | [v],h2 => exact h2 v (by simp)
  | v :: u :: r,h2 => simp only [packed,Bd_tuple];intro x hx;exact h2 x (by simpa using hx)
end
end Go.Abs
end
section
namespace Go.Abs
def noGo (P : Program) : Bool := P.funcs.toList.all fun fn => !(fn.name == "runtime.NumGoroutine")
def env (P : Program) : Env where
 info t:=P.info? t
 fn f:=match P.funcs[f]? with
  | some fn => match fn.body with
   | some _ => some fn
   | none => none
  | none => none
 ng:=0
theorem env_ok {P : Program} (h : noGo P = true) : EnvOk P (env P):=by
 refine ⟨fun t i h => h,fun f fn hf => ?_⟩
 simp only [env] at hf
 split at hf
 ·rename_i fn' hfn
  split at hf
  ·rename_i c hc
   simp at hf;subst hf
   have:=List.all_eq_true.1 h fn' (Array.mem_toList_iff.2 (Array.mem_of_getElem? hfn))
   exact ⟨hfn,by rw [hc];rfl,by simpa using this⟩
  ·simp at hf
 ·simp at hf
def μ0 : Hp:={ objs:=.e,next:=0 }
theorem Sim.below {w0 w : World} {ι : Ren} {μ : Hp} {ng : Nat} (h : Sim Prot.all w0 ng ι μ w) : RowKit.Below w0.heap.size w0 w :=
 ⟨h.os,h.tape,h.output,h.size,fun k hk => h.prot k hk trivial⟩
def answer : Option (Ending × Hp) → Option Value
 | some (.returned v,_) => some v
 | _ => none
end Go.Abs
end
