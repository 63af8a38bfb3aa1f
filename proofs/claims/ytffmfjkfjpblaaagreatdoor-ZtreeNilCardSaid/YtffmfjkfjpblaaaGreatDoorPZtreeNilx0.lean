-- A text of the kit's printer, of which only what this claim uses is left (cut by prune.py).
import Derived.Test.YtffmfjkfjpblaaaGreatDoorProg
import Derived.Below
import Derived.Deep.Draws
import Derived.Deep.AppendLies
import Derived.Maps.AppendAt
import Derived.OwnWalk
import Derived.Laws.BytesArg
import Derived.Laws.MakeOwn
import Derived.Laws.OwnMore
import Derived.Deep.OwnRows
import Derived.Tactics
import Derived.Lib.ConvBytes
import Derived.Laws.Slices
import Derived.WalkKit
import Derived.KernelRfl
import Derived.RowKit3
import Derived.Deep.LoopGhost
import Derived.Deep.QuietTactic
import Derived.BigQuiet
import Derived.WideLaws
import Derived.Deep.DeepCutAuto
import Derived.Deep.CutBlock
import Derived.Deep.RegionHeld3
import Derived.Laws.Rows
import Derived.Lib.AppendStr
import Derived.ArgAppend
import Derived.Laws.IdiomCopy
import Derived.OrdersHeld
import Derived.Laws.BitsLemmas
import Derived.RowKit
import Derived.Test.YtffmfjkfjpblaaaGreatDoorWWords
import Derived.Test.YtffmfjkfjpblaaaGreatDoorWLast
import Derived.Test.YtffmfjkfjpblaaaGreatDoorWTab
import Derived.Test.YtffmfjkfjpblaaaGreatDoorWFour
import Derived.Test.YtffmfjkfjpblaaaGreatDoorWQPut
import Derived.Test.YtffmfjkfjpblaaaGreatDoorWApart
import Derived.Test.YtffmfjkfjpblaaaGreatDoorWArr
import Derived.Test.YtffmfjkfjpblaaaGreatDoorWZeros
import Derived.Test.YtffmfjkfjpblaaaGreatDoorWFoot
import Derived.Test.YtffmfjkfjpblaaaGreatDoorWKept
import Derived.Test.YtffmfjkfjpblaaaGreatDoorWShare
import Derived.Test.YtffmfjkfjpblaaaGreatDoorWN
import Derived.Test.YtffmfjkfjpblaaaGreatDoorWFootNe
import Derived.Test.YtffmfjkfjpblaaaGreatDoorWAt
import Derived.Test.YtffmfjkfjpblaaaGreatDoorWEqStruct
import Derived.Test.YtffmfjkfjpblaaaGreatDoorWRepsOne
import Derived.Test.YtffmfjkfjpblaaaGreatDoorWInv
import Derived.Test.YtffmfjkfjpblaaaGreatDoorWInvWords
import Derived.Test.YtffmfjkfjpblaaaGreatDoorWGuard
import Derived.Test.YtffmfjkfjpblaaaGreatDoorWNEv
import Derived.Test.YtffmfjkfjpblaaaGreatDoorWMore
namespace Go.Proofs.YtffmfjkfjpblaaaGreatDoor.PZtreeNil
open Go.RowKit Go.Proofs.YtffmfjkfjpblaaaGreatDoorW.PrintWords Go.Proofs.YtffmfjkfjpblaaaGreatDoorW.PrintLast Go.Proofs.YtffmfjkfjpblaaaGreatDoorW.PrintMore
attribute [local go_sem] max2_int min2_int max_two min_two max_three min_three max_four min_four
set_option linter.unusedVariables false
set_option linter.unusedSimpArgs false

def errW : Option Int → Value
  | none => .nilIface
  | some c => .iface 0 (.int .i64 c)
theorem errW_none : errW none = .nilIface := rfl
theorem errW_some (c : Int) : errW (some c) = .iface 0 (.int .i64 c) := rfl

theorem info5 : (Tryz.prog.info? 5).map (fun i => (i.zero, i.size, i.bytes)) = some (some (.int .u8 0), 1, 1) := by kernel_rfl
theorem info33 : (Tryz.prog.info? 33).map (fun i => (i.zero, i.size, i.bytes)) = some (some (.agg #[(.int .i8 0), (.string ⟨#[]⟩), (.slice none 0 0), (.slice none 0 0), (.int .i32 0), (.bool false), (.bool false), (.int .i64 0), (.int .i32 0), (.slice none 0 0), (.slice none 0 0)]), 11, 144) := by kernel_rfl
theorem info79 : (Tryz.prog.info? 79).map (fun i => (i.zero, i.size, i.bytes)) = some (some (.agg #[(.string ⟨#[]⟩), (.string ⟨#[]⟩)]), 2, 32) := by kernel_rfl
theorem info81 : (Tryz.prog.info? 81).map (fun i => (i.zero, i.size, i.bytes)) = some (some (.agg #[(.int .i8 0), (.string ⟨#[]⟩), (.string ⟨#[]⟩)]), 3, 40) := by kernel_rfl
-- the values' own types
/-! #### struct type 79 -/
structure S79 where
  f0 : ByteArray
  f1 : ByteArray
def z79 : S79 := ⟨(⟨#[]⟩ : ByteArray), (⟨#[]⟩ : ByteArray)⟩
def k79 : Kd S79 := Kd.iso (Kd.pair Kd.string Kd.string) (fun x : S79 => (x.f0, x.f1))
theorem k79_open {w : World} {x : S79} {cs : List Value} (h : k79.K w x cs) : cs = [.string x.f0, .string x.f1] := by
  obtain ⟨_, _, rfl, rfl, rfl⟩ := h
  exact rfl
theorem k79_mk (w : World) (x : S79)  : k79.K w x [.string x.f0, .string x.f1] := ⟨[.string x.f0], [.string x.f1], rfl, rfl, rfl⟩
theorem k79_mkM (w : World) (base : Nat) (ok : Nat → Prop) (x : S79)  : k79.M w base ok x [.string x.f0, .string x.f1] := ⟨[.string x.f0], [.string x.f1], rfl, rfl, rfl⟩
def rd_T79 (xs : List S79) (i : Int) : S79 := xs.getD i.toNat z79
theorem at_T79 {w : World} {A : Option Addr} {n : Nat} {xs : List S79} (h : Kd.C k79 w A n xs) (i : Int) (h0 : 0 ≤ i) (h1 : i < n) : ∃ ad , A = some ad ∧ w.cell? (ad.add (i.toNat * 2)) = some (.string (rd_T79 xs i).f0) ∧ w.cell? ⟨(ad.add (i.toNat * 2)).block, (ad.add (i.toNat * 2)).off + 1, none⟩ = some (.string (rd_T79 xs i).f1) := by
  obtain ⟨ad, c, e, _, hK, hc0⟩ := Kd.C_get h z79 i h0 h1
  have hc : ∀ j u, c[j]? = some u → w.cell? (ad.add (i.toNat * 2 + j)) = some u := hc0
  obtain rfl := k79_open hK
  exact ⟨ad, e, hc 0 _ rfl, by rw [← add_field _ _ 1 (by omega)]; exact hc 1 _ rfl⟩

/-! #### struct type 81 -/
structure S81 where
  f0 : Int
  f1 : S79
def z81 : S81 := ⟨(0 : Int), z79⟩
def k81 : Kd S81 := Kd.iso (Kd.pair (Kd.int .i8) k79) (fun x : S81 => (x.f0, x.f1))
theorem k81_open {w : World} {x : S81} {cs : List Value} (h : k81.K w x cs) : cs = [.int .i8 x.f0, .string x.f1.f0, .string x.f1.f1] := by
  obtain ⟨_, _, rfl, rfl, s1⟩ := h
  obtain rfl := k79_open s1
  exact rfl
theorem k81_mk (w : World) (x : S81)  : k81.K w x [.int .i8 x.f0, .string x.f1.f0, .string x.f1.f1] := ⟨[.int .i8 x.f0], [.string x.f1.f0, .string x.f1.f1], rfl, rfl, (k79_mk w x.f1 )⟩
theorem k81_mkM (w : World) (base : Nat) (ok : Nat → Prop) (x : S81)  : k81.M w base ok x [.int .i8 x.f0, .string x.f1.f0, .string x.f1.f1] := ⟨[.int .i8 x.f0], [.string x.f1.f0, .string x.f1.f1], rfl, rfl, (k79_mkM w base ok x.f1 )⟩
def rd_T81 (xs : List S81) (i : Int) : S81 := xs.getD i.toNat z81
theorem at_T81 {w : World} {A : Option Addr} {n : Nat} {xs : List S81} (h : Kd.C k81 w A n xs) (i : Int) (h0 : 0 ≤ i) (h1 : i < n) : ∃ ad , A = some ad ∧ w.cell? (ad.add (i.toNat * 3)) = some (.int .i8 (rd_T81 xs i).f0) ∧ w.cell? ⟨(ad.add (i.toNat * 3)).block, (ad.add (i.toNat * 3)).off + 1, none⟩ = some (.string (rd_T81 xs i).f1.f0) ∧ w.cell? ⟨(ad.add (i.toNat * 3)).block, (ad.add (i.toNat * 3)).off + 2, none⟩ = some (.string (rd_T81 xs i).f1.f1) := by
  obtain ⟨ad, c, e, _, hK, hc0⟩ := Kd.C_get h z81 i h0 h1
  have hc : ∀ j u, c[j]? = some u → w.cell? (ad.add (i.toNat * 3 + j)) = some u := hc0
  obtain rfl := k81_open hK
  exact ⟨ad, e, hc 0 _ rfl, by rw [← add_field _ _ 1 (by omega)]; exact hc 1 _ rfl, by rw [← add_field _ _ 2 (by omega)]; exact hc 2 _ rfl⟩

/-! #### struct type 24 -/
/-! #### struct type 50 -/
/-! #### struct type 54, nested in itself -/
/-! #### struct type 149 -/
/-! #### struct type 33, nested in itself -/
structure S33 where
  f0 : Int
  f1 : ByteArray
  f2 : (List Int)
  f3 : (List S81)
  f4 : Int
  f5 : Bool
  f6 : Bool
  f7 : Int
  f8 : Int
  f9 : (List S79)
  f10 : (List S33)
def z33 : S33 := ⟨(0 : Int), (⟨#[]⟩ : ByteArray), ([] : List Int), ([] : List S81), (0 : Int), false, false, (0 : Int), (0 : Int), ([] : List S79), ([] : List S33)⟩
def F33 (d : Kd S33) : Kd S33 := Kd.iso (Kd.pair (Kd.int .i8) (Kd.pair Kd.string (Kd.pair (Kd.slice 5 (Kd.int .u8)) (Kd.pair (Kd.slice 81 k81) (Kd.pair (Kd.int .i32) (Kd.pair Kd.bool (Kd.pair Kd.bool (Kd.pair (Kd.int .i64) (Kd.pair (Kd.int .i32) (Kd.pair (Kd.slice 79 k79) (Kd.slice 33 d))))))))))) (fun x : S33 => (x.f0, x.f1, x.f2, x.f3, x.f4, x.f5, x.f6, x.f7, x.f8, x.f9, x.f10))
theorem mono33 : Kd.Mono F33 := Kd.mono_iso _ (Kd.mono_pair (Kd.mono_const _) (Kd.mono_pair (Kd.mono_const _) (Kd.mono_pair (Kd.mono_const _) (Kd.mono_pair (Kd.mono_const _) (Kd.mono_pair (Kd.mono_const _) (Kd.mono_pair (Kd.mono_const _) (Kd.mono_pair (Kd.mono_const _) (Kd.mono_pair (Kd.mono_const _) (Kd.mono_pair (Kd.mono_const _) (Kd.mono_pair (Kd.mono_const _) (Kd.mono_slice 33 Kd.mono_id)))))))))))
theorem sub33 : Kd.Sub F33 [5, 33, 79, 81] := Kd.sub_iso _ (Kd.sub_pair (Kd.sub_const _ (by decide)) (Kd.sub_pair (Kd.sub_const _ (by decide)) (Kd.sub_pair (Kd.sub_const _ (by decide)) (Kd.sub_pair (Kd.sub_const _ (by decide)) (Kd.sub_pair (Kd.sub_const _ (by decide)) (Kd.sub_pair (Kd.sub_const _ (by decide)) (Kd.sub_pair (Kd.sub_const _ (by decide)) (Kd.sub_pair (Kd.sub_const _ (by decide)) (Kd.sub_pair (Kd.sub_const _ (by decide)) (Kd.sub_pair (Kd.sub_const _ (by decide)) (Kd.sub_slice 33 (by decide) Kd.sub_id)))))))))))
theorem sz33 : ∀ n, (Kd.upto F33 11 [5, 33, 79, 81] n).sz = 11 := Kd.upto_sz (fun _ => rfl)
def k33 : Kd S33 := Kd.fix F33 11 [5, 33, 79, 81] sz33 (Kd.upto_E sub33)
theorem k33_open {w : World} {x : S33} {cs : List Value} (h : k33.K w x cs) : ∃ A2 c2 A3 c3 A9 c9 A10 c10, cs = [.int .i8 x.f0, .string x.f1, .slice A2 x.f2.length c2, .slice A3 x.f3.length c3, .int .i32 x.f4, .bool x.f5, .bool x.f6, .int .i64 x.f7, .int .i32 x.f8, .slice A9 x.f9.length c9, .slice A10 x.f10.length c10] ∧ x.f2.length ≤ c2 ∧ (Kd.int .u8).C w A2 x.f2.length x.f2 ∧ x.f3.length ≤ c3 ∧ k81.C w A3 x.f3.length x.f3 ∧ x.f9.length ≤ c9 ∧ k79.C w A9 x.f9.length x.f9 ∧ x.f10.length ≤ c10 ∧ k33.C w A10 x.f10.length x.f10 := by
  obtain ⟨n, h⟩ := h
  cases n with
  | zero => exact h.elim
  | succ n =>
    obtain ⟨_, _, rfl, rfl, ⟨_, _, rfl, rfl, ⟨_, _, rfl, ⟨A2, c2, rfl, l2, g2⟩, ⟨_, _, rfl, ⟨A3, c3, rfl, l3, g3⟩, ⟨_, _, rfl, rfl, ⟨_, _, rfl, rfl, ⟨_, _, rfl, rfl, ⟨_, _, rfl, rfl, ⟨_, _, rfl, rfl, ⟨_, _, rfl, ⟨A9, c9, rfl, l9, g9⟩, ⟨A10, c10, rfl, l10, g10⟩⟩⟩⟩⟩⟩⟩⟩⟩⟩⟩ := h
    exact ⟨A2, c2, A3, c3, A9, c9, A10, c10, rfl, l2, g2, l3, g3, l9, g9, l10, Kd.fix_C g10⟩
theorem k33_mk (w : World) (x : S33) {A2 : Option Addr} {c2 : Nat} (l2 : x.f2.length ≤ c2) (g2 : (Kd.int .u8).C w A2 x.f2.length x.f2) {A3 : Option Addr} {c3 : Nat} (l3 : x.f3.length ≤ c3) (g3 : k81.C w A3 x.f3.length x.f3) {A9 : Option Addr} {c9 : Nat} (l9 : x.f9.length ≤ c9) (g9 : k79.C w A9 x.f9.length x.f9) {A10 : Option Addr} {c10 : Nat} (l10 : x.f10.length ≤ c10) (g10 : k33.C w A10 x.f10.length x.f10) : k33.K w x [.int .i8 x.f0, .string x.f1, .slice A2 x.f2.length c2, .slice A3 x.f3.length c3, .int .i32 x.f4, .bool x.f5, .bool x.f6, .int .i64 x.f7, .int .i32 x.f8, .slice A9 x.f9.length c9, .slice A10 x.f10.length c10] := by
  obtain ⟨n10, q10⟩ := Kd.fix_C_back mono33 g10
  have r10 := Kd.upto_C_le mono33 sz33 (show n10 ≤ n10 by omega) q10
  exact ⟨n10 + 1, ⟨[.int .i8 x.f0], [.string x.f1, .slice A2 x.f2.length c2, .slice A3 x.f3.length c3, .int .i32 x.f4, .bool x.f5, .bool x.f6, .int .i64 x.f7, .int .i32 x.f8, .slice A9 x.f9.length c9, .slice A10 x.f10.length c10], rfl, rfl, ⟨[.string x.f1], [.slice A2 x.f2.length c2, .slice A3 x.f3.length c3, .int .i32 x.f4, .bool x.f5, .bool x.f6, .int .i64 x.f7, .int .i32 x.f8, .slice A9 x.f9.length c9, .slice A10 x.f10.length c10], rfl, rfl, ⟨[.slice A2 x.f2.length c2], [.slice A3 x.f3.length c3, .int .i32 x.f4, .bool x.f5, .bool x.f6, .int .i64 x.f7, .int .i32 x.f8, .slice A9 x.f9.length c9, .slice A10 x.f10.length c10], rfl, ⟨A2, c2, rfl, l2, g2⟩, ⟨[.slice A3 x.f3.length c3], [.int .i32 x.f4, .bool x.f5, .bool x.f6, .int .i64 x.f7, .int .i32 x.f8, .slice A9 x.f9.length c9, .slice A10 x.f10.length c10], rfl, ⟨A3, c3, rfl, l3, g3⟩, ⟨[.int .i32 x.f4], [.bool x.f5, .bool x.f6, .int .i64 x.f7, .int .i32 x.f8, .slice A9 x.f9.length c9, .slice A10 x.f10.length c10], rfl, rfl, ⟨[.bool x.f5], [.bool x.f6, .int .i64 x.f7, .int .i32 x.f8, .slice A9 x.f9.length c9, .slice A10 x.f10.length c10], rfl, rfl, ⟨[.bool x.f6], [.int .i64 x.f7, .int .i32 x.f8, .slice A9 x.f9.length c9, .slice A10 x.f10.length c10], rfl, rfl, ⟨[.int .i64 x.f7], [.int .i32 x.f8, .slice A9 x.f9.length c9, .slice A10 x.f10.length c10], rfl, rfl, ⟨[.int .i32 x.f8], [.slice A9 x.f9.length c9, .slice A10 x.f10.length c10], rfl, rfl, ⟨[.slice A9 x.f9.length c9], [.slice A10 x.f10.length c10], rfl, ⟨A9, c9, rfl, l9, g9⟩, ⟨A10, c10, rfl, l10, r10⟩⟩⟩⟩⟩⟩⟩⟩⟩⟩⟩⟩
theorem k33_mkM (w : World) (base : Nat) (ok : Nat → Prop) (x : S33) {v2 : Value} (g2 : (Kd.int .u8).R 5 w base ok v2 x.f2) {v3 : Value} (g3 : k81.R 81 w base ok v3 x.f3) {v9 : Value} (g9 : k79.R 79 w base ok v9 x.f9) {v10 : Value} (g10 : k33.R 33 w base ok v10 x.f10) : k33.M w base ok x [.int .i8 x.f0, .string x.f1, v2, v3, .int .i32 x.f4, .bool x.f5, .bool x.f6, .int .i64 x.f7, .int .i32 x.f8, v9, v10] := by
  obtain ⟨n10, q10⟩ := Kd.fix_R_back mono33 g10
  have r10 := Kd.upto_R_le mono33 sz33 (show n10 ≤ n10 by omega) q10
  exact ⟨n10 + 1, ⟨[.int .i8 x.f0], [.string x.f1, v2, v3, .int .i32 x.f4, .bool x.f5, .bool x.f6, .int .i64 x.f7, .int .i32 x.f8, v9, v10], rfl, rfl, ⟨[.string x.f1], [v2, v3, .int .i32 x.f4, .bool x.f5, .bool x.f6, .int .i64 x.f7, .int .i32 x.f8, v9, v10], rfl, rfl, ⟨[v2], [v3, .int .i32 x.f4, .bool x.f5, .bool x.f6, .int .i64 x.f7, .int .i32 x.f8, v9, v10], rfl, ⟨v2, rfl, g2⟩, ⟨[v3], [.int .i32 x.f4, .bool x.f5, .bool x.f6, .int .i64 x.f7, .int .i32 x.f8, v9, v10], rfl, ⟨v3, rfl, g3⟩, ⟨[.int .i32 x.f4], [.bool x.f5, .bool x.f6, .int .i64 x.f7, .int .i32 x.f8, v9, v10], rfl, rfl, ⟨[.bool x.f5], [.bool x.f6, .int .i64 x.f7, .int .i32 x.f8, v9, v10], rfl, rfl, ⟨[.bool x.f6], [.int .i64 x.f7, .int .i32 x.f8, v9, v10], rfl, rfl, ⟨[.int .i64 x.f7], [.int .i32 x.f8, v9, v10], rfl, rfl, ⟨[.int .i32 x.f8], [v9, v10], rfl, rfl, ⟨[v9], [v10], rfl, ⟨v9, rfl, g9⟩, ⟨v10, rfl, r10⟩⟩⟩⟩⟩⟩⟩⟩⟩⟩⟩⟩
def rd_T33 (xs : List S33) (i : Int) : S33 := xs.getD i.toNat z33
theorem at_T33 {w : World} {A : Option Addr} {n : Nat} {xs : List S33} (h : Kd.C k33 w A n xs) (i : Int) (h0 : 0 ≤ i) (h1 : i < n) : ∃ ad A2 c2 A3 c3 A9 c9 A10 c10, A = some ad ∧ w.cell? (ad.add (i.toNat * 11)) = some (.int .i8 (rd_T33 xs i).f0) ∧ w.cell? ⟨(ad.add (i.toNat * 11)).block, (ad.add (i.toNat * 11)).off + 1, none⟩ = some (.string (rd_T33 xs i).f1) ∧ w.cell? ⟨(ad.add (i.toNat * 11)).block, (ad.add (i.toNat * 11)).off + 2, none⟩ = some (.slice A2 (rd_T33 xs i).f2.length c2) ∧ w.cell? ⟨(ad.add (i.toNat * 11)).block, (ad.add (i.toNat * 11)).off + 3, none⟩ = some (.slice A3 (rd_T33 xs i).f3.length c3) ∧ w.cell? ⟨(ad.add (i.toNat * 11)).block, (ad.add (i.toNat * 11)).off + 4, none⟩ = some (.int .i32 (rd_T33 xs i).f4) ∧ w.cell? ⟨(ad.add (i.toNat * 11)).block, (ad.add (i.toNat * 11)).off + 5, none⟩ = some (.bool (rd_T33 xs i).f5) ∧ w.cell? ⟨(ad.add (i.toNat * 11)).block, (ad.add (i.toNat * 11)).off + 6, none⟩ = some (.bool (rd_T33 xs i).f6) ∧ w.cell? ⟨(ad.add (i.toNat * 11)).block, (ad.add (i.toNat * 11)).off + 7, none⟩ = some (.int .i64 (rd_T33 xs i).f7) ∧ w.cell? ⟨(ad.add (i.toNat * 11)).block, (ad.add (i.toNat * 11)).off + 8, none⟩ = some (.int .i32 (rd_T33 xs i).f8) ∧ w.cell? ⟨(ad.add (i.toNat * 11)).block, (ad.add (i.toNat * 11)).off + 9, none⟩ = some (.slice A9 (rd_T33 xs i).f9.length c9) ∧ w.cell? ⟨(ad.add (i.toNat * 11)).block, (ad.add (i.toNat * 11)).off + 10, none⟩ = some (.slice A10 (rd_T33 xs i).f10.length c10) ∧ (rd_T33 xs i).f2.length ≤ c2 ∧ (Kd.int .u8).C w A2 (rd_T33 xs i).f2.length (rd_T33 xs i).f2 ∧ (rd_T33 xs i).f3.length ≤ c3 ∧ k81.C w A3 (rd_T33 xs i).f3.length (rd_T33 xs i).f3 ∧ (rd_T33 xs i).f9.length ≤ c9 ∧ k79.C w A9 (rd_T33 xs i).f9.length (rd_T33 xs i).f9 ∧ (rd_T33 xs i).f10.length ≤ c10 ∧ k33.C w A10 (rd_T33 xs i).f10.length (rd_T33 xs i).f10 := by
  obtain ⟨ad, c, e, _, hK, hc0⟩ := Kd.C_get h z33 i h0 h1
  have hc : ∀ j u, c[j]? = some u → w.cell? (ad.add (i.toNat * 11 + j)) = some u := hc0
  obtain ⟨A2, c2, A3, c3, A9, c9, A10, c10, rfl, l2, g2, l3, g3, l9, g9, l10, g10⟩ := k33_open hK
  exact ⟨ad, A2, c2, A3, c3, A9, c9, A10, c10, e, hc 0 _ rfl, by rw [← add_field _ _ 1 (by omega)]; exact hc 1 _ rfl, by rw [← add_field _ _ 2 (by omega)]; exact hc 2 _ rfl, by rw [← add_field _ _ 3 (by omega)]; exact hc 3 _ rfl, by rw [← add_field _ _ 4 (by omega)]; exact hc 4 _ rfl, by rw [← add_field _ _ 5 (by omega)]; exact hc 5 _ rfl, by rw [← add_field _ _ 6 (by omega)]; exact hc 6 _ rfl, by rw [← add_field _ _ 7 (by omega)]; exact hc 7 _ rfl, by rw [← add_field _ _ 8 (by omega)]; exact hc 8 _ rfl, by rw [← add_field _ _ 9 (by omega)]; exact hc 9 _ rfl, by rw [← add_field _ _ 10 (by omega)]; exact hc 10 _ rfl, l2, g2, l3, g3, l9, g9, l10, g10⟩

end Go.Proofs.YtffmfjkfjpblaaaGreatDoor.PZtreeNil
