-- PRINTED BY print.sh 35421559b90ae4d0a3588c463048766b98c2df88dd9212a6774a882060cdf62d: not written by this session
import Derived.Test.YtpgpbaalnmdlaaaGreatDoorProg
import Derived.Below
import Derived.Deep.Draws
import Derived.Deep.AppendLies
import Derived.Maps.AppendAt
import Derived.OwnWalk
import Derived.Laws.BytesArg
import Derived.Laws.MakeOwn
import Derived.Laws.OwnMore
import Derived.Deep.OwnRows
import Derived.Tactics
import Derived.Lib.ConvBytes
import Derived.Laws.Slices
import Derived.WalkKit
import Derived.KernelRfl
import Derived.RowKit3
import Derived.Deep.LoopGhost
import Derived.Deep.QuietTactic
import Derived.BigQuiet
import Derived.WideLaws
import Derived.Deep.DeepCutAuto
import Derived.Deep.CutBlock
import Derived.Deep.RegionHeld3
import Derived.Laws.Rows
import Derived.Lib.AppendStr
import Derived.ArgAppend
import Derived.Laws.IdiomCopy
import Derived.OrdersHeld
import Derived.Laws.BitsLemmas
import Derived.RowKit
import Derived.Test.YtpgpbaalnmdlaaaGreatDoorWWords
import Derived.Test.YtpgpbaalnmdlaaaGreatDoorWLast
import Derived.Test.YtpgpbaalnmdlaaaGreatDoorWTab
import Derived.Test.YtpgpbaalnmdlaaaGreatDoorWFour
import Derived.Test.YtpgpbaalnmdlaaaGreatDoorWQPut
import Derived.Test.YtpgpbaalnmdlaaaGreatDoorWApart
import Derived.Test.YtpgpbaalnmdlaaaGreatDoorWArr
import Derived.Test.YtpgpbaalnmdlaaaGreatDoorWZeros
import Derived.Test.YtpgpbaalnmdlaaaGreatDoorWFoot
import Derived.Test.YtpgpbaalnmdlaaaGreatDoorWKept
import Derived.Test.YtpgpbaalnmdlaaaGreatDoorWShare
import Derived.Test.YtpgpbaalnmdlaaaGreatDoorWN
import Derived.Test.YtpgpbaalnmdlaaaGreatDoorWFootNe
import Derived.Test.YtpgpbaalnmdlaaaGreatDoorWAt
import Derived.Test.YtpgpbaalnmdlaaaGreatDoorWEqStruct
import Derived.Test.YtpgpbaalnmdlaaaGreatDoorWRepsOne
import Derived.Test.YtpgpbaalnmdlaaaGreatDoorWInv
import Derived.Test.YtpgpbaalnmdlaaaGreatDoorWInvWords
import Derived.Test.YtpgpbaalnmdlaaaGreatDoorWGuard
import Derived.Test.YtpgpbaalnmdlaaaGreatDoorWNEv
import Derived.Test.YtpgpbaalnmdlaaaGreatDoorWMore
namespace Go.Proofs.YtpgpbaalnmdlaaaGreatDoor.PLearnNone
open Go.RowKit Go.Proofs.YtpgpbaalnmdlaaaGreatDoorW.PrintWords Go.Proofs.YtpgpbaalnmdlaaaGreatDoorW.PrintLast Go.Proofs.YtpgpbaalnmdlaaaGreatDoorW.PrintMore
attribute [local go_sem] max2_int min2_int max_two min_two max_three min_three max_four min_four   -- for this text's walks alone
set_option linter.unusedVariables false
set_option linter.unusedSimpArgs false



def errW : Option Int → Value
  | none => .nilIface
  | some c => .iface 0 (.int .i64 c)
theorem errW_none : errW none = .nilIface := rfl
theorem errW_some (c : Int) : errW (some c) = .iface 0 (.int .i64 c) := rfl

theorem info3 : (Tryz.prog.info? 3).map (fun i => (i.zero, i.size, i.bytes)) = some (some (.int .i64 0), 1, 8) := by kernel_rfl
-- the values' own types
def rd_L3 (xs : List (List Int)) (i : Int) : (List Int) := xs.getD i.toNat ([] : List Int)
theorem at_L3 {w : World} {A : Option Addr} {n : Nat} {xs : List (List Int)} (h : Kd.C (Kd.slice 5 (Kd.int .u8)) w A n xs) (i : Int) (h0 : 0 ≤ i) (h1 : i < n) : ∃ ad A0 c0, A = some ad ∧ w.cell? (ad.add i.toNat) = some (.slice A0 (rd_L3 xs i).length c0) ∧ (rd_L3 xs i).length ≤ c0 ∧ (Kd.int .u8).C w A0 (rd_L3 xs i).length (rd_L3 xs i) := by
  obtain ⟨ad, c, e, _, hK, hc0⟩ := Kd.C_get h ([] : List Int) i h0 h1
  have hc : ∀ j u, c[j]? = some u → w.cell? (ad.add (i.toNat * 1 + j)) = some u := hc0
  obtain ⟨A0, c0, rfl, l0, g0⟩ := hK
  exact ⟨ad, A0, c0, e, by have hq := hc 0 _ rfl; rwa [Nat.mul_one, Nat.add_zero] at hq, l0, g0⟩

/-! #### struct type 111 -/
structure S111 where
  f0 : ByteArray
  f1 : ByteArray
def z111 : S111 := ⟨(⟨#[]⟩ : ByteArray), (⟨#[]⟩ : ByteArray)⟩
def k111 : Kd S111 := Kd.iso (Kd.pair Kd.string Kd.string) (fun x : S111 => (x.f0, x.f1))
theorem k111_open {w : World} {x : S111} {cs : List Value} (h : k111.K w x cs) : cs = [.string x.f0, .string x.f1] := by
  obtain ⟨_, _, rfl, rfl, rfl⟩ := h
  exact rfl
theorem k111_openM {w : World} {base : Nat} {ok : Nat → Prop} {x : S111} {cs : List Value} (h : k111.M w base ok x cs) : cs = [.string x.f0, .string x.f1] := by
  obtain ⟨_, _, rfl, rfl, rfl⟩ := h
  exact rfl
theorem k111_mk (w : World) (x : S111)  : k111.K w x [.string x.f0, .string x.f1] := ⟨[.string x.f0], [.string x.f1], rfl, rfl, rfl⟩
theorem k111_mkM (w : World) (base : Nat) (ok : Nat → Prop) (x : S111)  : k111.M w base ok x [.string x.f0, .string x.f1] := ⟨[.string x.f0], [.string x.f1], rfl, rfl, rfl⟩
theorem k111_mkF (W : World) (ok : Nat → Prop) (x : S111) : Kd.FK k111 W ok x [.string x.f0, .string x.f1] := fun W2 _ => k111_mk W2 x
def rd_T111 (xs : List S111) (i : Int) : S111 := xs.getD i.toNat z111
theorem at_T111 {w : World} {A : Option Addr} {n : Nat} {xs : List S111} (h : Kd.C k111 w A n xs) (i : Int) (h0 : 0 ≤ i) (h1 : i < n) : ∃ ad , A = some ad ∧ w.cell? (ad.add (i.toNat * 2)) = some (.string (rd_T111 xs i).f0) ∧ w.cell? ⟨(ad.add (i.toNat * 2)).block, (ad.add (i.toNat * 2)).off + 1, none⟩ = some (.string (rd_T111 xs i).f1) := by
  obtain ⟨ad, c, e, _, hK, hc0⟩ := Kd.C_get h z111 i h0 h1
  have hc : ∀ j u, c[j]? = some u → w.cell? (ad.add (i.toNat * 2 + j)) = some u := hc0
  obtain rfl := k111_open hK
  exact ⟨ad, e, hc 0 _ rfl, by rw [← add_field _ _ 1 (by omega)]; exact hc 1 _ rfl⟩

/-! #### struct type 113 -/
structure S113 where
  f0 : Int
  f1 : S111
def z113 : S113 := ⟨(0 : Int), z111⟩
def k113 : Kd S113 := Kd.iso (Kd.pair (Kd.int .i8) k111) (fun x : S113 => (x.f0, x.f1))
theorem k113_open {w : World} {x : S113} {cs : List Value} (h : k113.K w x cs) : cs = [.int .i8 x.f0, .string x.f1.f0, .string x.f1.f1] := by
  obtain ⟨_, _, rfl, rfl, s1⟩ := h
  obtain rfl := k111_open s1
  exact rfl
theorem k113_openM {w : World} {base : Nat} {ok : Nat → Prop} {x : S113} {cs : List Value} (h : k113.M w base ok x cs) : cs = [.int .i8 x.f0, .string x.f1.f0, .string x.f1.f1] := by
  obtain ⟨_, _, rfl, rfl, s1⟩ := h
  obtain rfl := k111_openM s1
  exact rfl
theorem k113_mk (w : World) (x : S113)  : k113.K w x [.int .i8 x.f0, .string x.f1.f0, .string x.f1.f1] := ⟨[.int .i8 x.f0], [.string x.f1.f0, .string x.f1.f1], rfl, rfl, (k111_mk w x.f1 )⟩
theorem k113_mkM (w : World) (base : Nat) (ok : Nat → Prop) (x : S113)  : k113.M w base ok x [.int .i8 x.f0, .string x.f1.f0, .string x.f1.f1] := ⟨[.int .i8 x.f0], [.string x.f1.f0, .string x.f1.f1], rfl, rfl, (k111_mkM w base ok x.f1 )⟩
theorem k113_mkF (W : World) (ok : Nat → Prop) (x : S113) : Kd.FK k113 W ok x [.int .i8 x.f0, .string x.f1.f0, .string x.f1.f1] := fun W2 _ => k113_mk W2 x
def rd_T113 (xs : List S113) (i : Int) : S113 := xs.getD i.toNat z113
theorem at_T113 {w : World} {A : Option Addr} {n : Nat} {xs : List S113} (h : Kd.C k113 w A n xs) (i : Int) (h0 : 0 ≤ i) (h1 : i < n) : ∃ ad , A = some ad ∧ w.cell? (ad.add (i.toNat * 3)) = some (.int .i8 (rd_T113 xs i).f0) ∧ w.cell? ⟨(ad.add (i.toNat * 3)).block, (ad.add (i.toNat * 3)).off + 1, none⟩ = some (.string (rd_T113 xs i).f1.f0) ∧ w.cell? ⟨(ad.add (i.toNat * 3)).block, (ad.add (i.toNat * 3)).off + 2, none⟩ = some (.string (rd_T113 xs i).f1.f1) := by
  obtain ⟨ad, c, e, _, hK, hc0⟩ := Kd.C_get h z113 i h0 h1
  have hc : ∀ j u, c[j]? = some u → w.cell? (ad.add (i.toNat * 3 + j)) = some u := hc0
  obtain rfl := k113_open hK
  exact ⟨ad, e, hc 0 _ rfl, by rw [← add_field _ _ 1 (by omega)]; exact hc 1 _ rfl, by rw [← add_field _ _ 2 (by omega)]; exact hc 2 _ rfl⟩

def rd_L6 (xs : List (List S113)) (i : Int) : (List S113) := xs.getD i.toNat ([] : List S113)
theorem at_L6 {w : World} {A : Option Addr} {n : Nat} {xs : List (List S113)} (h : Kd.C (Kd.slice 113 k113) w A n xs) (i : Int) (h0 : 0 ≤ i) (h1 : i < n) : ∃ ad A0 c0, A = some ad ∧ w.cell? (ad.add i.toNat) = some (.slice A0 (rd_L6 xs i).length c0) ∧ (rd_L6 xs i).length ≤ c0 ∧ k113.C w A0 (rd_L6 xs i).length (rd_L6 xs i) := by
  obtain ⟨ad, c, e, _, hK, hc0⟩ := Kd.C_get h ([] : List S113) i h0 h1
  have hc : ∀ j u, c[j]? = some u → w.cell? (ad.add (i.toNat * 1 + j)) = some u := hc0
  obtain ⟨A0, c0, rfl, l0, g0⟩ := hK
  exact ⟨ad, A0, c0, e, by have hq := hc 0 _ rfl; rwa [Nat.mul_one, Nat.add_zero] at hq, l0, g0⟩

def rd_L10 (xs : List (List S111)) (i : Int) : (List S111) := xs.getD i.toNat ([] : List S111)
theorem at_L10 {w : World} {A : Option Addr} {n : Nat} {xs : List (List S111)} (h : Kd.C (Kd.slice 111 k111) w A n xs) (i : Int) (h0 : 0 ≤ i) (h1 : i < n) : ∃ ad A0 c0, A = some ad ∧ w.cell? (ad.add i.toNat) = some (.slice A0 (rd_L10 xs i).length c0) ∧ (rd_L10 xs i).length ≤ c0 ∧ k111.C w A0 (rd_L10 xs i).length (rd_L10 xs i) := by
  obtain ⟨ad, c, e, _, hK, hc0⟩ := Kd.C_get h ([] : List S111) i h0 h1
  have hc : ∀ j u, c[j]? = some u → w.cell? (ad.add (i.toNat * 1 + j)) = some u := hc0
  obtain ⟨A0, c0, rfl, l0, g0⟩ := hK
  exact ⟨ad, A0, c0, e, by have hq := hc 0 _ rfl; rwa [Nat.mul_one, Nat.add_zero] at hq, l0, g0⟩

/-! #### struct type 35, nested in itself -/
structure S35 where
  f0 : Int
  f1 : ByteArray
  f2 : (List Int)
  f3 : (List S113)
  f4 : Int
  f5 : Bool
  f6 : Bool
  f7 : Int
  f8 : Int
  f9 : (List S111)
  f10 : (List S35)
def z35 : S35 := ⟨(0 : Int), (⟨#[]⟩ : ByteArray), ([] : List Int), ([] : List S113), (0 : Int), false, false, (0 : Int), (0 : Int), ([] : List S111), ([] : List S35)⟩
def F35 (d : Kd S35) : Kd S35 := Kd.iso (Kd.pair (Kd.int .i8) (Kd.pair Kd.string (Kd.pair (Kd.slice 5 (Kd.int .u8)) (Kd.pair (Kd.slice 113 k113) (Kd.pair (Kd.int .i32) (Kd.pair Kd.bool (Kd.pair Kd.bool (Kd.pair (Kd.int .i64) (Kd.pair (Kd.int .i32) (Kd.pair (Kd.slice 111 k111) (Kd.slice 35 d))))))))))) (fun x : S35 => (x.f0, x.f1, x.f2, x.f3, x.f4, x.f5, x.f6, x.f7, x.f8, x.f9, x.f10))
theorem mono35 : Kd.Mono F35 := Kd.mono_iso _ (Kd.mono_pair (Kd.mono_const _) (Kd.mono_pair (Kd.mono_const _) (Kd.mono_pair (Kd.mono_const _) (Kd.mono_pair (Kd.mono_const _) (Kd.mono_pair (Kd.mono_const _) (Kd.mono_pair (Kd.mono_const _) (Kd.mono_pair (Kd.mono_const _) (Kd.mono_pair (Kd.mono_const _) (Kd.mono_pair (Kd.mono_const _) (Kd.mono_pair (Kd.mono_const _) (Kd.mono_slice 35 Kd.mono_id)))))))))))
theorem sub35 : Kd.Sub F35 [5, 35, 111, 113] := Kd.sub_iso _ (Kd.sub_pair (Kd.sub_const _ (by decide)) (Kd.sub_pair (Kd.sub_const _ (by decide)) (Kd.sub_pair (Kd.sub_const _ (by decide)) (Kd.sub_pair (Kd.sub_const _ (by decide)) (Kd.sub_pair (Kd.sub_const _ (by decide)) (Kd.sub_pair (Kd.sub_const _ (by decide)) (Kd.sub_pair (Kd.sub_const _ (by decide)) (Kd.sub_pair (Kd.sub_const _ (by decide)) (Kd.sub_pair (Kd.sub_const _ (by decide)) (Kd.sub_pair (Kd.sub_const _ (by decide)) (Kd.sub_slice 35 (by decide) Kd.sub_id)))))))))))
theorem sz35 : ∀ n, (Kd.upto F35 11 [5, 35, 111, 113] n).sz = 11 := Kd.upto_sz (fun _ => rfl)
def k35 : Kd S35 := Kd.fix F35 11 [5, 35, 111, 113] sz35 (Kd.upto_E sub35)
theorem k35_open {w : World} {x : S35} {cs : List Value} (h : k35.K w x cs) : ∃ A2 c2 A3 c3 A9 c9 A10 c10, cs = [.int .i8 x.f0, .string x.f1, .slice A2 x.f2.length c2, .slice A3 x.f3.length c3, .int .i32 x.f4, .bool x.f5, .bool x.f6, .int .i64 x.f7, .int .i32 x.f8, .slice A9 x.f9.length c9, .slice A10 x.f10.length c10] ∧ x.f2.length ≤ c2 ∧ (Kd.int .u8).C w A2 x.f2.length x.f2 ∧ x.f3.length ≤ c3 ∧ k113.C w A3 x.f3.length x.f3 ∧ x.f9.length ≤ c9 ∧ k111.C w A9 x.f9.length x.f9 ∧ x.f10.length ≤ c10 ∧ k35.C w A10 x.f10.length x.f10 := by
  obtain ⟨n, h⟩ := h
  cases n with
  | zero => exact h.elim
  | succ n =>
    obtain ⟨_, _, rfl, rfl, ⟨_, _, rfl, rfl, ⟨_, _, rfl, ⟨A2, c2, rfl, l2, g2⟩, ⟨_, _, rfl, ⟨A3, c3, rfl, l3, g3⟩, ⟨_, _, rfl, rfl, ⟨_, _, rfl, rfl, ⟨_, _, rfl, rfl, ⟨_, _, rfl, rfl, ⟨_, _, rfl, rfl, ⟨_, _, rfl, ⟨A9, c9, rfl, l9, g9⟩, ⟨A10, c10, rfl, l10, g10⟩⟩⟩⟩⟩⟩⟩⟩⟩⟩⟩ := h
    exact ⟨A2, c2, A3, c3, A9, c9, A10, c10, rfl, l2, g2, l3, g3, l9, g9, l10, Kd.fix_C g10⟩
theorem k35_openM {w : World} {base : Nat} {ok : Nat → Prop} {x : S35} {cs : List Value} (h : k35.M w base ok x cs) : ∃ v2 v3 v9 v10, cs = [.int .i8 x.f0, .string x.f1, v2, v3, .int .i32 x.f4, .bool x.f5, .bool x.f6, .int .i64 x.f7, .int .i32 x.f8, v9, v10] ∧ (Kd.int .u8).R 5 w base ok v2 x.f2 ∧ k113.R 113 w base ok v3 x.f3 ∧ k111.R 111 w base ok v9 x.f9 ∧ k35.R 35 w base ok v10 x.f10 := by
  obtain ⟨n, h⟩ := h
  cases n with
  | zero => exact h.elim
  | succ n =>
    obtain ⟨_, _, rfl, rfl, ⟨_, _, rfl, rfl, ⟨_, _, rfl, ⟨v2, rfl, g2⟩, ⟨_, _, rfl, ⟨v3, rfl, g3⟩, ⟨_, _, rfl, rfl, ⟨_, _, rfl, rfl, ⟨_, _, rfl, rfl, ⟨_, _, rfl, rfl, ⟨_, _, rfl, rfl, ⟨_, _, rfl, ⟨v9, rfl, g9⟩, ⟨v10, rfl, g10⟩⟩⟩⟩⟩⟩⟩⟩⟩⟩⟩ := h
    exact ⟨v2, v3, v9, v10, rfl, g2, g3, g9, Kd.fix_R g10⟩
theorem k35_mk (w : World) (x : S35) {A2 : Option Addr} {c2 : Nat} (l2 : x.f2.length ≤ c2) (g2 : (Kd.int .u8).C w A2 x.f2.length x.f2) {A3 : Option Addr} {c3 : Nat} (l3 : x.f3.length ≤ c3) (g3 : k113.C w A3 x.f3.length x.f3) {A9 : Option Addr} {c9 : Nat} (l9 : x.f9.length ≤ c9) (g9 : k111.C w A9 x.f9.length x.f9) {A10 : Option Addr} {c10 : Nat} (l10 : x.f10.length ≤ c10) (g10 : k35.C w A10 x.f10.length x.f10) : k35.K w x [.int .i8 x.f0, .string x.f1, .slice A2 x.f2.length c2, .slice A3 x.f3.length c3, .int .i32 x.f4, .bool x.f5, .bool x.f6, .int .i64 x.f7, .int .i32 x.f8, .slice A9 x.f9.length c9, .slice A10 x.f10.length c10] := by
  obtain ⟨n10, q10⟩ := Kd.fix_C_back mono35 g10
  have r10 := Kd.upto_C_le mono35 sz35 (show n10 ≤ n10 by omega) q10
  exact ⟨n10 + 1, ⟨[.int .i8 x.f0], [.string x.f1, .slice A2 x.f2.length c2, .slice A3 x.f3.length c3, .int .i32 x.f4, .bool x.f5, .bool x.f6, .int .i64 x.f7, .int .i32 x.f8, .slice A9 x.f9.length c9, .slice A10 x.f10.length c10], rfl, rfl, ⟨[.string x.f1], [.slice A2 x.f2.length c2, .slice A3 x.f3.length c3, .int .i32 x.f4, .bool x.f5, .bool x.f6, .int .i64 x.f7, .int .i32 x.f8, .slice A9 x.f9.length c9, .slice A10 x.f10.length c10], rfl, rfl, ⟨[.slice A2 x.f2.length c2], [.slice A3 x.f3.length c3, .int .i32 x.f4, .bool x.f5, .bool x.f6, .int .i64 x.f7, .int .i32 x.f8, .slice A9 x.f9.length c9, .slice A10 x.f10.length c10], rfl, ⟨A2, c2, rfl, l2, g2⟩, ⟨[.slice A3 x.f3.length c3], [.int .i32 x.f4, .bool x.f5, .bool x.f6, .int .i64 x.f7, .int .i32 x.f8, .slice A9 x.f9.length c9, .slice A10 x.f10.length c10], rfl, ⟨A3, c3, rfl, l3, g3⟩, ⟨[.int .i32 x.f4], [.bool x.f5, .bool x.f6, .int .i64 x.f7, .int .i32 x.f8, .slice A9 x.f9.length c9, .slice A10 x.f10.length c10], rfl, rfl, ⟨[.bool x.f5], [.bool x.f6, .int .i64 x.f7, .int .i32 x.f8, .slice A9 x.f9.length c9, .slice A10 x.f10.length c10], rfl, rfl, ⟨[.bool x.f6], [.int .i64 x.f7, .int .i32 x.f8, .slice A9 x.f9.length c9, .slice A10 x.f10.length c10], rfl, rfl, ⟨[.int .i64 x.f7], [.int .i32 x.f8, .slice A9 x.f9.length c9, .slice A10 x.f10.length c10], rfl, rfl, ⟨[.int .i32 x.f8], [.slice A9 x.f9.length c9, .slice A10 x.f10.length c10], rfl, rfl, ⟨[.slice A9 x.f9.length c9], [.slice A10 x.f10.length c10], rfl, ⟨A9, c9, rfl, l9, g9⟩, ⟨A10, c10, rfl, l10, r10⟩⟩⟩⟩⟩⟩⟩⟩⟩⟩⟩⟩
theorem k35_mkM (w : World) (base : Nat) (ok : Nat → Prop) (x : S35) {v2 : Value} (g2 : (Kd.int .u8).R 5 w base ok v2 x.f2) {v3 : Value} (g3 : k113.R 113 w base ok v3 x.f3) {v9 : Value} (g9 : k111.R 111 w base ok v9 x.f9) {v10 : Value} (g10 : k35.R 35 w base ok v10 x.f10) : k35.M w base ok x [.int .i8 x.f0, .string x.f1, v2, v3, .int .i32 x.f4, .bool x.f5, .bool x.f6, .int .i64 x.f7, .int .i32 x.f8, v9, v10] := by
  obtain ⟨n10, q10⟩ := Kd.fix_R_back mono35 g10
  have r10 := Kd.upto_R_le mono35 sz35 (show n10 ≤ n10 by omega) q10
  exact ⟨n10 + 1, ⟨[.int .i8 x.f0], [.string x.f1, v2, v3, .int .i32 x.f4, .bool x.f5, .bool x.f6, .int .i64 x.f7, .int .i32 x.f8, v9, v10], rfl, rfl, ⟨[.string x.f1], [v2, v3, .int .i32 x.f4, .bool x.f5, .bool x.f6, .int .i64 x.f7, .int .i32 x.f8, v9, v10], rfl, rfl, ⟨[v2], [v3, .int .i32 x.f4, .bool x.f5, .bool x.f6, .int .i64 x.f7, .int .i32 x.f8, v9, v10], rfl, ⟨v2, rfl, g2⟩, ⟨[v3], [.int .i32 x.f4, .bool x.f5, .bool x.f6, .int .i64 x.f7, .int .i32 x.f8, v9, v10], rfl, ⟨v3, rfl, g3⟩, ⟨[.int .i32 x.f4], [.bool x.f5, .bool x.f6, .int .i64 x.f7, .int .i32 x.f8, v9, v10], rfl, rfl, ⟨[.bool x.f5], [.bool x.f6, .int .i64 x.f7, .int .i32 x.f8, v9, v10], rfl, rfl, ⟨[.bool x.f6], [.int .i64 x.f7, .int .i32 x.f8, v9, v10], rfl, rfl, ⟨[.int .i64 x.f7], [.int .i32 x.f8, v9, v10], rfl, rfl, ⟨[.int .i32 x.f8], [v9, v10], rfl, rfl, ⟨[v9], [v10], rfl, ⟨v9, rfl, g9⟩, ⟨v10, rfl, r10⟩⟩⟩⟩⟩⟩⟩⟩⟩⟩⟩⟩
theorem k35_openF {W : World} {ok : Nat → Prop} {x : S35} {cs : List Value} (h : Kd.FK k35 W ok x cs) : ∃ A2 c2 A3 c3 A9 c9 A10 c10, cs = [.int .i8 x.f0, .string x.f1, .slice A2 x.f2.length c2, .slice A3 x.f3.length c3, .int .i32 x.f4, .bool x.f5, .bool x.f6, .int .i64 x.f7, .int .i32 x.f8, .slice A9 x.f9.length c9, .slice A10 x.f10.length c10] ∧ x.f2.length ≤ c2 ∧ Kd.F (Kd.int .u8) W ok A2 x.f2.length x.f2 ∧ x.f3.length ≤ c3 ∧ Kd.F k113 W ok A3 x.f3.length x.f3 ∧ x.f9.length ≤ c9 ∧ Kd.F k111 W ok A9 x.f9.length x.f9 ∧ x.f10.length ≤ c10 ∧ Kd.F k35 W ok A10 x.f10.length x.f10 := by
  obtain ⟨A2, c2, A3, c3, A9, c9, A10, c10, rfl, l2, _, l3, _, l9, _, l10, _⟩ := k35_open (Kd.FK_now h)
  exact ⟨A2, c2, A3, c3, A9, c9, A10, c10, rfl, l2, (fun W' hW => by obtain ⟨A2_, c2_, A3_, c3_, A9_, c9_, A10_, c10_, he, l2_, g2_, l3_, g3_, l9_, g9_, l10_, g10_⟩ := k35_open (h W' hW); injection (Option.some.inj (show some (Value.slice A2 x.f2.length c2) = some (Value.slice A2_ x.f2.length c2_) from congrArg (fun l => l[2]?) he)) with ha_ _ _; rw [ha_]; exact g2_), l3, (fun W' hW => by obtain ⟨A2_, c2_, A3_, c3_, A9_, c9_, A10_, c10_, he, l2_, g2_, l3_, g3_, l9_, g9_, l10_, g10_⟩ := k35_open (h W' hW); injection (Option.some.inj (show some (Value.slice A3 x.f3.length c3) = some (Value.slice A3_ x.f3.length c3_) from congrArg (fun l => l[3]?) he)) with ha_ _ _; rw [ha_]; exact g3_), l9, (fun W' hW => by obtain ⟨A2_, c2_, A3_, c3_, A9_, c9_, A10_, c10_, he, l2_, g2_, l3_, g3_, l9_, g9_, l10_, g10_⟩ := k35_open (h W' hW); injection (Option.some.inj (show some (Value.slice A9 x.f9.length c9) = some (Value.slice A9_ x.f9.length c9_) from congrArg (fun l => l[9]?) he)) with ha_ _ _; rw [ha_]; exact g9_), l10, (fun W' hW => by obtain ⟨A2_, c2_, A3_, c3_, A9_, c9_, A10_, c10_, he, l2_, g2_, l3_, g3_, l9_, g9_, l10_, g10_⟩ := k35_open (h W' hW); injection (Option.some.inj (show some (Value.slice A10 x.f10.length c10) = some (Value.slice A10_ x.f10.length c10_) from congrArg (fun l => l[10]?) he)) with ha_ _ _; rw [ha_]; exact g10_)⟩
theorem k35_mkF (W : World) (ok : Nat → Prop) (x : S35) {A2 : Option Addr} {c2 : Nat} (l2 : x.f2.length ≤ c2) (g2 : Kd.F (Kd.int .u8) W ok A2 x.f2.length x.f2) {A3 : Option Addr} {c3 : Nat} (l3 : x.f3.length ≤ c3) (g3 : Kd.F k113 W ok A3 x.f3.length x.f3) {A9 : Option Addr} {c9 : Nat} (l9 : x.f9.length ≤ c9) (g9 : Kd.F k111 W ok A9 x.f9.length x.f9) {A10 : Option Addr} {c10 : Nat} (l10 : x.f10.length ≤ c10) (g10 : Kd.F k35 W ok A10 x.f10.length x.f10) : Kd.FK k35 W ok x [.int .i8 x.f0, .string x.f1, .slice A2 x.f2.length c2, .slice A3 x.f3.length c3, .int .i32 x.f4, .bool x.f5, .bool x.f6, .int .i64 x.f7, .int .i32 x.f8, .slice A9 x.f9.length c9, .slice A10 x.f10.length c10] := fun W2 hW => k35_mk W2 x l2 (g2 W2 hW) l3 (g3 W2 hW) l9 (g9 W2 hW) l10 (g10 W2 hW)
def rd_T35 (xs : List S35) (i : Int) : S35 := xs.getD i.toNat z35
theorem at_T35 {w : World} {A : Option Addr} {n : Nat} {xs : List S35} (h : Kd.C k35 w A n xs) (i : Int) (h0 : 0 ≤ i) (h1 : i < n) : ∃ ad A2 c2 A3 c3 A9 c9 A10 c10, A = some ad ∧ w.cell? (ad.add (i.toNat * 11)) = some (.int .i8 (rd_T35 xs i).f0) ∧ w.cell? ⟨(ad.add (i.toNat * 11)).block, (ad.add (i.toNat * 11)).off + 1, none⟩ = some (.string (rd_T35 xs i).f1) ∧ w.cell? ⟨(ad.add (i.toNat * 11)).block, (ad.add (i.toNat * 11)).off + 2, none⟩ = some (.slice A2 (rd_T35 xs i).f2.length c2) ∧ w.cell? ⟨(ad.add (i.toNat * 11)).block, (ad.add (i.toNat * 11)).off + 3, none⟩ = some (.slice A3 (rd_T35 xs i).f3.length c3) ∧ w.cell? ⟨(ad.add (i.toNat * 11)).block, (ad.add (i.toNat * 11)).off + 4, none⟩ = some (.int .i32 (rd_T35 xs i).f4) ∧ w.cell? ⟨(ad.add (i.toNat * 11)).block, (ad.add (i.toNat * 11)).off + 5, none⟩ = some (.bool (rd_T35 xs i).f5) ∧ w.cell? ⟨(ad.add (i.toNat * 11)).block, (ad.add (i.toNat * 11)).off + 6, none⟩ = some (.bool (rd_T35 xs i).f6) ∧ w.cell? ⟨(ad.add (i.toNat * 11)).block, (ad.add (i.toNat * 11)).off + 7, none⟩ = some (.int .i64 (rd_T35 xs i).f7) ∧ w.cell? ⟨(ad.add (i.toNat * 11)).block, (ad.add (i.toNat * 11)).off + 8, none⟩ = some (.int .i32 (rd_T35 xs i).f8) ∧ w.cell? ⟨(ad.add (i.toNat * 11)).block, (ad.add (i.toNat * 11)).off + 9, none⟩ = some (.slice A9 (rd_T35 xs i).f9.length c9) ∧ w.cell? ⟨(ad.add (i.toNat * 11)).block, (ad.add (i.toNat * 11)).off + 10, none⟩ = some (.slice A10 (rd_T35 xs i).f10.length c10) ∧ (rd_T35 xs i).f2.length ≤ c2 ∧ (Kd.int .u8).C w A2 (rd_T35 xs i).f2.length (rd_T35 xs i).f2 ∧ (rd_T35 xs i).f3.length ≤ c3 ∧ k113.C w A3 (rd_T35 xs i).f3.length (rd_T35 xs i).f3 ∧ (rd_T35 xs i).f9.length ≤ c9 ∧ k111.C w A9 (rd_T35 xs i).f9.length (rd_T35 xs i).f9 ∧ (rd_T35 xs i).f10.length ≤ c10 ∧ k35.C w A10 (rd_T35 xs i).f10.length (rd_T35 xs i).f10 := by
  obtain ⟨ad, c, e, _, hK, hc0⟩ := Kd.C_get h z35 i h0 h1
  have hc : ∀ j u, c[j]? = some u → w.cell? (ad.add (i.toNat * 11 + j)) = some u := hc0
  obtain ⟨A2, c2, A3, c3, A9, c9, A10, c10, rfl, l2, g2, l3, g3, l9, g9, l10, g10⟩ := k35_open hK
  exact ⟨ad, A2, c2, A3, c3, A9, c9, A10, c10, e, hc 0 _ rfl, by rw [← add_field _ _ 1 (by omega)]; exact hc 1 _ rfl, by rw [← add_field _ _ 2 (by omega)]; exact hc 2 _ rfl, by rw [← add_field _ _ 3 (by omega)]; exact hc 3 _ rfl, by rw [← add_field _ _ 4 (by omega)]; exact hc 4 _ rfl, by rw [← add_field _ _ 5 (by omega)]; exact hc 5 _ rfl, by rw [← add_field _ _ 6 (by omega)]; exact hc 6 _ rfl, by rw [← add_field _ _ 7 (by omega)]; exact hc 7 _ rfl, by rw [← add_field _ _ 8 (by omega)]; exact hc 8 _ rfl, by rw [← add_field _ _ 9 (by omega)]; exact hc 9 _ rfl, by rw [← add_field _ _ 10 (by omega)]; exact hc 10 _ rfl, l2, g2, l3, g3, l9, g9, l10, g10⟩

/-! #### struct type 27 -/
structure S27 where
  f0 : Int
  f1 : Int
def z27 : S27 := ⟨(0 : Int), (0 : Int)⟩
def k27 : Kd S27 := Kd.iso (Kd.pair (Kd.int .u32) (Kd.int .u32)) (fun x : S27 => (x.f0, x.f1))
theorem k27_open {w : World} {x : S27} {cs : List Value} (h : k27.K w x cs) : cs = [.int .u32 x.f0, .int .u32 x.f1] := by
  obtain ⟨_, _, rfl, rfl, rfl⟩ := h
  exact rfl
theorem k27_openM {w : World} {base : Nat} {ok : Nat → Prop} {x : S27} {cs : List Value} (h : k27.M w base ok x cs) : cs = [.int .u32 x.f0, .int .u32 x.f1] := by
  obtain ⟨_, _, rfl, rfl, rfl⟩ := h
  exact rfl
theorem k27_mk (w : World) (x : S27)  : k27.K w x [.int .u32 x.f0, .int .u32 x.f1] := ⟨[.int .u32 x.f0], [.int .u32 x.f1], rfl, rfl, rfl⟩
theorem k27_mkM (w : World) (base : Nat) (ok : Nat → Prop) (x : S27)  : k27.M w base ok x [.int .u32 x.f0, .int .u32 x.f1] := ⟨[.int .u32 x.f0], [.int .u32 x.f1], rfl, rfl, rfl⟩
theorem k27_mkF (W : World) (ok : Nat → Prop) (x : S27) : Kd.FK k27 W ok x [.int .u32 x.f0, .int .u32 x.f1] := fun W2 _ => k27_mk W2 x
def rd_T27 (xs : List S27) (i : Int) : S27 := xs.getD i.toNat z27
theorem at_T27 {w : World} {A : Option Addr} {n : Nat} {xs : List S27} (h : Kd.C k27 w A n xs) (i : Int) (h0 : 0 ≤ i) (h1 : i < n) : ∃ ad , A = some ad ∧ w.cell? (ad.add (i.toNat * 2)) = some (.int .u32 (rd_T27 xs i).f0) ∧ w.cell? ⟨(ad.add (i.toNat * 2)).block, (ad.add (i.toNat * 2)).off + 1, none⟩ = some (.int .u32 (rd_T27 xs i).f1) := by
  obtain ⟨ad, c, e, _, hK, hc0⟩ := Kd.C_get h z27 i h0 h1
  have hc : ∀ j u, c[j]? = some u → w.cell? (ad.add (i.toNat * 2 + j)) = some u := hc0
  obtain rfl := k27_open hK
  exact ⟨ad, e, hc 0 _ rfl, by rw [← add_field _ _ 1 (by omega)]; exact hc 1 _ rfl⟩

/-! #### struct type 29 -/
structure S29 where
  f0 : Int
  f1 : Int
  f2 : Int
def z29 : S29 := ⟨(0 : Int), (0 : Int), (0 : Int)⟩
def k29 : Kd S29 := Kd.iso (Kd.pair (Kd.int .i8) (Kd.pair (Kd.int .u32) (Kd.int .i64))) (fun x : S29 => (x.f0, x.f1, x.f2))
theorem k29_open {w : World} {x : S29} {cs : List Value} (h : k29.K w x cs) : cs = [.int .i8 x.f0, .int .u32 x.f1, .int .i64 x.f2] := by
  obtain ⟨_, _, rfl, rfl, ⟨_, _, rfl, rfl, rfl⟩⟩ := h
  exact rfl
theorem k29_openM {w : World} {base : Nat} {ok : Nat → Prop} {x : S29} {cs : List Value} (h : k29.M w base ok x cs) : cs = [.int .i8 x.f0, .int .u32 x.f1, .int .i64 x.f2] := by
  obtain ⟨_, _, rfl, rfl, ⟨_, _, rfl, rfl, rfl⟩⟩ := h
  exact rfl
theorem k29_mk (w : World) (x : S29)  : k29.K w x [.int .i8 x.f0, .int .u32 x.f1, .int .i64 x.f2] := ⟨[.int .i8 x.f0], [.int .u32 x.f1, .int .i64 x.f2], rfl, rfl, ⟨[.int .u32 x.f1], [.int .i64 x.f2], rfl, rfl, rfl⟩⟩
theorem k29_mkM (w : World) (base : Nat) (ok : Nat → Prop) (x : S29)  : k29.M w base ok x [.int .i8 x.f0, .int .u32 x.f1, .int .i64 x.f2] := ⟨[.int .i8 x.f0], [.int .u32 x.f1, .int .i64 x.f2], rfl, rfl, ⟨[.int .u32 x.f1], [.int .i64 x.f2], rfl, rfl, rfl⟩⟩
theorem k29_mkF (W : World) (ok : Nat → Prop) (x : S29) : Kd.FK k29 W ok x [.int .i8 x.f0, .int .u32 x.f1, .int .i64 x.f2] := fun W2 _ => k29_mk W2 x
def rd_T29 (xs : List S29) (i : Int) : S29 := xs.getD i.toNat z29
theorem at_T29 {w : World} {A : Option Addr} {n : Nat} {xs : List S29} (h : Kd.C k29 w A n xs) (i : Int) (h0 : 0 ≤ i) (h1 : i < n) : ∃ ad , A = some ad ∧ w.cell? (ad.add (i.toNat * 3)) = some (.int .i8 (rd_T29 xs i).f0) ∧ w.cell? ⟨(ad.add (i.toNat * 3)).block, (ad.add (i.toNat * 3)).off + 1, none⟩ = some (.int .u32 (rd_T29 xs i).f1) ∧ w.cell? ⟨(ad.add (i.toNat * 3)).block, (ad.add (i.toNat * 3)).off + 2, none⟩ = some (.int .i64 (rd_T29 xs i).f2) := by
  obtain ⟨ad, c, e, _, hK, hc0⟩ := Kd.C_get h z29 i h0 h1
  have hc : ∀ j u, c[j]? = some u → w.cell? (ad.add (i.toNat * 3 + j)) = some u := hc0
  obtain rfl := k29_open hK
  exact ⟨ad, e, hc 0 _ rfl, by rw [← add_field _ _ 1 (by omega)]; exact hc 1 _ rfl, by rw [← add_field _ _ 2 (by omega)]; exact hc 2 _ rfl⟩

/-! #### struct type 37 -/
structure S37 where
  f0 : S27
  f1 : S29
  f2 : S35
def z37 : S37 := ⟨z27, z29, z35⟩
def k37 : Kd S37 := Kd.iso (Kd.pair k27 (Kd.pair k29 k35)) (fun x : S37 => (x.f0, x.f1, x.f2))
theorem k37_open {w : World} {x : S37} {cs : List Value} (h : k37.K w x cs) : ∃ A7 c7 A8 c8 A14 c14 A15 c15, cs = [.int .u32 x.f0.f0, .int .u32 x.f0.f1, .int .i8 x.f1.f0, .int .u32 x.f1.f1, .int .i64 x.f1.f2, .int .i8 x.f2.f0, .string x.f2.f1, .slice A7 x.f2.f2.length c7, .slice A8 x.f2.f3.length c8, .int .i32 x.f2.f4, .bool x.f2.f5, .bool x.f2.f6, .int .i64 x.f2.f7, .int .i32 x.f2.f8, .slice A14 x.f2.f9.length c14, .slice A15 x.f2.f10.length c15] ∧ x.f2.f2.length ≤ c7 ∧ (Kd.int .u8).C w A7 x.f2.f2.length x.f2.f2 ∧ x.f2.f3.length ≤ c8 ∧ k113.C w A8 x.f2.f3.length x.f2.f3 ∧ x.f2.f9.length ≤ c14 ∧ k111.C w A14 x.f2.f9.length x.f2.f9 ∧ x.f2.f10.length ≤ c15 ∧ k35.C w A15 x.f2.f10.length x.f2.f10 := by
  obtain ⟨_, _, rfl, s0, ⟨_, _, rfl, s2, s5⟩⟩ := h
  obtain rfl := k27_open s0
  obtain rfl := k29_open s2
  obtain ⟨A7, c7, A8, c8, A14, c14, A15, c15, rfl, l7, g7, l8, g8, l14, g14, l15, g15⟩ := k35_open s5
  exact ⟨A7, c7, A8, c8, A14, c14, A15, c15, rfl, l7, g7, l8, g8, l14, g14, l15, g15⟩
theorem k37_openM {w : World} {base : Nat} {ok : Nat → Prop} {x : S37} {cs : List Value} (h : k37.M w base ok x cs) : ∃ v7 v8 v14 v15, cs = [.int .u32 x.f0.f0, .int .u32 x.f0.f1, .int .i8 x.f1.f0, .int .u32 x.f1.f1, .int .i64 x.f1.f2, .int .i8 x.f2.f0, .string x.f2.f1, v7, v8, .int .i32 x.f2.f4, .bool x.f2.f5, .bool x.f2.f6, .int .i64 x.f2.f7, .int .i32 x.f2.f8, v14, v15] ∧ (Kd.int .u8).R 5 w base ok v7 x.f2.f2 ∧ k113.R 113 w base ok v8 x.f2.f3 ∧ k111.R 111 w base ok v14 x.f2.f9 ∧ k35.R 35 w base ok v15 x.f2.f10 := by
  obtain ⟨_, _, rfl, s0, ⟨_, _, rfl, s2, s5⟩⟩ := h
  obtain rfl := k27_openM s0
  obtain rfl := k29_openM s2
  obtain ⟨v7, v8, v14, v15, rfl, g7, g8, g14, g15⟩ := k35_openM s5
  exact ⟨v7, v8, v14, v15, rfl, g7, g8, g14, g15⟩
theorem k37_mk (w : World) (x : S37) {A7 : Option Addr} {c7 : Nat} (l7 : x.f2.f2.length ≤ c7) (g7 : (Kd.int .u8).C w A7 x.f2.f2.length x.f2.f2) {A8 : Option Addr} {c8 : Nat} (l8 : x.f2.f3.length ≤ c8) (g8 : k113.C w A8 x.f2.f3.length x.f2.f3) {A14 : Option Addr} {c14 : Nat} (l14 : x.f2.f9.length ≤ c14) (g14 : k111.C w A14 x.f2.f9.length x.f2.f9) {A15 : Option Addr} {c15 : Nat} (l15 : x.f2.f10.length ≤ c15) (g15 : k35.C w A15 x.f2.f10.length x.f2.f10) : k37.K w x [.int .u32 x.f0.f0, .int .u32 x.f0.f1, .int .i8 x.f1.f0, .int .u32 x.f1.f1, .int .i64 x.f1.f2, .int .i8 x.f2.f0, .string x.f2.f1, .slice A7 x.f2.f2.length c7, .slice A8 x.f2.f3.length c8, .int .i32 x.f2.f4, .bool x.f2.f5, .bool x.f2.f6, .int .i64 x.f2.f7, .int .i32 x.f2.f8, .slice A14 x.f2.f9.length c14, .slice A15 x.f2.f10.length c15] := ⟨[.int .u32 x.f0.f0, .int .u32 x.f0.f1], [.int .i8 x.f1.f0, .int .u32 x.f1.f1, .int .i64 x.f1.f2, .int .i8 x.f2.f0, .string x.f2.f1, .slice A7 x.f2.f2.length c7, .slice A8 x.f2.f3.length c8, .int .i32 x.f2.f4, .bool x.f2.f5, .bool x.f2.f6, .int .i64 x.f2.f7, .int .i32 x.f2.f8, .slice A14 x.f2.f9.length c14, .slice A15 x.f2.f10.length c15], rfl, (k27_mk w x.f0 ), ⟨[.int .i8 x.f1.f0, .int .u32 x.f1.f1, .int .i64 x.f1.f2], [.int .i8 x.f2.f0, .string x.f2.f1, .slice A7 x.f2.f2.length c7, .slice A8 x.f2.f3.length c8, .int .i32 x.f2.f4, .bool x.f2.f5, .bool x.f2.f6, .int .i64 x.f2.f7, .int .i32 x.f2.f8, .slice A14 x.f2.f9.length c14, .slice A15 x.f2.f10.length c15], rfl, (k29_mk w x.f1 ), (k35_mk w x.f2 l7 g7 l8 g8 l14 g14 l15 g15)⟩⟩
theorem k37_mkM (w : World) (base : Nat) (ok : Nat → Prop) (x : S37) {v7 : Value} (g7 : (Kd.int .u8).R 5 w base ok v7 x.f2.f2) {v8 : Value} (g8 : k113.R 113 w base ok v8 x.f2.f3) {v14 : Value} (g14 : k111.R 111 w base ok v14 x.f2.f9) {v15 : Value} (g15 : k35.R 35 w base ok v15 x.f2.f10) : k37.M w base ok x [.int .u32 x.f0.f0, .int .u32 x.f0.f1, .int .i8 x.f1.f0, .int .u32 x.f1.f1, .int .i64 x.f1.f2, .int .i8 x.f2.f0, .string x.f2.f1, v7, v8, .int .i32 x.f2.f4, .bool x.f2.f5, .bool x.f2.f6, .int .i64 x.f2.f7, .int .i32 x.f2.f8, v14, v15] := ⟨[.int .u32 x.f0.f0, .int .u32 x.f0.f1], [.int .i8 x.f1.f0, .int .u32 x.f1.f1, .int .i64 x.f1.f2, .int .i8 x.f2.f0, .string x.f2.f1, v7, v8, .int .i32 x.f2.f4, .bool x.f2.f5, .bool x.f2.f6, .int .i64 x.f2.f7, .int .i32 x.f2.f8, v14, v15], rfl, (k27_mkM w base ok x.f0 ), ⟨[.int .i8 x.f1.f0, .int .u32 x.f1.f1, .int .i64 x.f1.f2], [.int .i8 x.f2.f0, .string x.f2.f1, v7, v8, .int .i32 x.f2.f4, .bool x.f2.f5, .bool x.f2.f6, .int .i64 x.f2.f7, .int .i32 x.f2.f8, v14, v15], rfl, (k29_mkM w base ok x.f1 ), (k35_mkM w base ok x.f2 g7 g8 g14 g15)⟩⟩
theorem k37_openF {W : World} {ok : Nat → Prop} {x : S37} {cs : List Value} (h : Kd.FK k37 W ok x cs) : ∃ A7 c7 A8 c8 A14 c14 A15 c15, cs = [.int .u32 x.f0.f0, .int .u32 x.f0.f1, .int .i8 x.f1.f0, .int .u32 x.f1.f1, .int .i64 x.f1.f2, .int .i8 x.f2.f0, .string x.f2.f1, .slice A7 x.f2.f2.length c7, .slice A8 x.f2.f3.length c8, .int .i32 x.f2.f4, .bool x.f2.f5, .bool x.f2.f6, .int .i64 x.f2.f7, .int .i32 x.f2.f8, .slice A14 x.f2.f9.length c14, .slice A15 x.f2.f10.length c15] ∧ x.f2.f2.length ≤ c7 ∧ Kd.F (Kd.int .u8) W ok A7 x.f2.f2.length x.f2.f2 ∧ x.f2.f3.length ≤ c8 ∧ Kd.F k113 W ok A8 x.f2.f3.length x.f2.f3 ∧ x.f2.f9.length ≤ c14 ∧ Kd.F k111 W ok A14 x.f2.f9.length x.f2.f9 ∧ x.f2.f10.length ≤ c15 ∧ Kd.F k35 W ok A15 x.f2.f10.length x.f2.f10 := by
  obtain ⟨A7, c7, A8, c8, A14, c14, A15, c15, rfl, l7, _, l8, _, l14, _, l15, _⟩ := k37_open (Kd.FK_now h)
  exact ⟨A7, c7, A8, c8, A14, c14, A15, c15, rfl, l7, (fun W' hW => by obtain ⟨A7_, c7_, A8_, c8_, A14_, c14_, A15_, c15_, he, l7_, g7_, l8_, g8_, l14_, g14_, l15_, g15_⟩ := k37_open (h W' hW); injection (Option.some.inj (show some (Value.slice A7 x.f2.f2.length c7) = some (Value.slice A7_ x.f2.f2.length c7_) from congrArg (fun l => l[7]?) he)) with ha_ _ _; rw [ha_]; exact g7_), l8, (fun W' hW => by obtain ⟨A7_, c7_, A8_, c8_, A14_, c14_, A15_, c15_, he, l7_, g7_, l8_, g8_, l14_, g14_, l15_, g15_⟩ := k37_open (h W' hW); injection (Option.some.inj (show some (Value.slice A8 x.f2.f3.length c8) = some (Value.slice A8_ x.f2.f3.length c8_) from congrArg (fun l => l[8]?) he)) with ha_ _ _; rw [ha_]; exact g8_), l14, (fun W' hW => by obtain ⟨A7_, c7_, A8_, c8_, A14_, c14_, A15_, c15_, he, l7_, g7_, l8_, g8_, l14_, g14_, l15_, g15_⟩ := k37_open (h W' hW); injection (Option.some.inj (show some (Value.slice A14 x.f2.f9.length c14) = some (Value.slice A14_ x.f2.f9.length c14_) from congrArg (fun l => l[14]?) he)) with ha_ _ _; rw [ha_]; exact g14_), l15, (fun W' hW => by obtain ⟨A7_, c7_, A8_, c8_, A14_, c14_, A15_, c15_, he, l7_, g7_, l8_, g8_, l14_, g14_, l15_, g15_⟩ := k37_open (h W' hW); injection (Option.some.inj (show some (Value.slice A15 x.f2.f10.length c15) = some (Value.slice A15_ x.f2.f10.length c15_) from congrArg (fun l => l[15]?) he)) with ha_ _ _; rw [ha_]; exact g15_)⟩
theorem k37_mkF (W : World) (ok : Nat → Prop) (x : S37) {A7 : Option Addr} {c7 : Nat} (l7 : x.f2.f2.length ≤ c7) (g7 : Kd.F (Kd.int .u8) W ok A7 x.f2.f2.length x.f2.f2) {A8 : Option Addr} {c8 : Nat} (l8 : x.f2.f3.length ≤ c8) (g8 : Kd.F k113 W ok A8 x.f2.f3.length x.f2.f3) {A14 : Option Addr} {c14 : Nat} (l14 : x.f2.f9.length ≤ c14) (g14 : Kd.F k111 W ok A14 x.f2.f9.length x.f2.f9) {A15 : Option Addr} {c15 : Nat} (l15 : x.f2.f10.length ≤ c15) (g15 : Kd.F k35 W ok A15 x.f2.f10.length x.f2.f10) : Kd.FK k37 W ok x [.int .u32 x.f0.f0, .int .u32 x.f0.f1, .int .i8 x.f1.f0, .int .u32 x.f1.f1, .int .i64 x.f1.f2, .int .i8 x.f2.f0, .string x.f2.f1, .slice A7 x.f2.f2.length c7, .slice A8 x.f2.f3.length c8, .int .i32 x.f2.f4, .bool x.f2.f5, .bool x.f2.f6, .int .i64 x.f2.f7, .int .i32 x.f2.f8, .slice A14 x.f2.f9.length c14, .slice A15 x.f2.f10.length c15] := fun W2 hW => k37_mk W2 x l7 (g7 W2 hW) l8 (g8 W2 hW) l14 (g14 W2 hW) l15 (g15 W2 hW)
def rd_T37 (xs : List S37) (i : Int) : S37 := xs.getD i.toNat z37
theorem at_T37 {w : World} {A : Option Addr} {n : Nat} {xs : List S37} (h : Kd.C k37 w A n xs) (i : Int) (h0 : 0 ≤ i) (h1 : i < n) : ∃ ad A7 c7 A8 c8 A14 c14 A15 c15, A = some ad ∧ w.cell? (ad.add (i.toNat * 16)) = some (.int .u32 (rd_T37 xs i).f0.f0) ∧ w.cell? ⟨(ad.add (i.toNat * 16)).block, (ad.add (i.toNat * 16)).off + 1, none⟩ = some (.int .u32 (rd_T37 xs i).f0.f1) ∧ w.cell? ⟨(ad.add (i.toNat * 16)).block, (ad.add (i.toNat * 16)).off + 2, none⟩ = some (.int .i8 (rd_T37 xs i).f1.f0) ∧ w.cell? ⟨(ad.add (i.toNat * 16)).block, (ad.add (i.toNat * 16)).off + 3, none⟩ = some (.int .u32 (rd_T37 xs i).f1.f1) ∧ w.cell? ⟨(ad.add (i.toNat * 16)).block, (ad.add (i.toNat * 16)).off + 4, none⟩ = some (.int .i64 (rd_T37 xs i).f1.f2) ∧ w.cell? ⟨(ad.add (i.toNat * 16)).block, (ad.add (i.toNat * 16)).off + 5, none⟩ = some (.int .i8 (rd_T37 xs i).f2.f0) ∧ w.cell? ⟨(ad.add (i.toNat * 16)).block, (ad.add (i.toNat * 16)).off + 6, none⟩ = some (.string (rd_T37 xs i).f2.f1) ∧ w.cell? ⟨(ad.add (i.toNat * 16)).block, (ad.add (i.toNat * 16)).off + 7, none⟩ = some (.slice A7 (rd_T37 xs i).f2.f2.length c7) ∧ w.cell? ⟨(ad.add (i.toNat * 16)).block, (ad.add (i.toNat * 16)).off + 8, none⟩ = some (.slice A8 (rd_T37 xs i).f2.f3.length c8) ∧ w.cell? ⟨(ad.add (i.toNat * 16)).block, (ad.add (i.toNat * 16)).off + 9, none⟩ = some (.int .i32 (rd_T37 xs i).f2.f4) ∧ w.cell? ⟨(ad.add (i.toNat * 16)).block, (ad.add (i.toNat * 16)).off + 10, none⟩ = some (.bool (rd_T37 xs i).f2.f5) ∧ w.cell? ⟨(ad.add (i.toNat * 16)).block, (ad.add (i.toNat * 16)).off + 11, none⟩ = some (.bool (rd_T37 xs i).f2.f6) ∧ w.cell? ⟨(ad.add (i.toNat * 16)).block, (ad.add (i.toNat * 16)).off + 12, none⟩ = some (.int .i64 (rd_T37 xs i).f2.f7) ∧ w.cell? ⟨(ad.add (i.toNat * 16)).block, (ad.add (i.toNat * 16)).off + 13, none⟩ = some (.int .i32 (rd_T37 xs i).f2.f8) ∧ w.cell? ⟨(ad.add (i.toNat * 16)).block, (ad.add (i.toNat * 16)).off + 14, none⟩ = some (.slice A14 (rd_T37 xs i).f2.f9.length c14) ∧ w.cell? ⟨(ad.add (i.toNat * 16)).block, (ad.add (i.toNat * 16)).off + 15, none⟩ = some (.slice A15 (rd_T37 xs i).f2.f10.length c15) ∧ (rd_T37 xs i).f2.f2.length ≤ c7 ∧ (Kd.int .u8).C w A7 (rd_T37 xs i).f2.f2.length (rd_T37 xs i).f2.f2 ∧ (rd_T37 xs i).f2.f3.length ≤ c8 ∧ k113.C w A8 (rd_T37 xs i).f2.f3.length (rd_T37 xs i).f2.f3 ∧ (rd_T37 xs i).f2.f9.length ≤ c14 ∧ k111.C w A14 (rd_T37 xs i).f2.f9.length (rd_T37 xs i).f2.f9 ∧ (rd_T37 xs i).f2.f10.length ≤ c15 ∧ k35.C w A15 (rd_T37 xs i).f2.f10.length (rd_T37 xs i).f2.f10 := by
  obtain ⟨ad, c, e, _, hK, hc0⟩ := Kd.C_get h z37 i h0 h1
  have hc : ∀ j u, c[j]? = some u → w.cell? (ad.add (i.toNat * 16 + j)) = some u := hc0
  obtain ⟨A7, c7, A8, c8, A14, c14, A15, c15, rfl, l7, g7, l8, g8, l14, g14, l15, g15⟩ := k37_open hK
  exact ⟨ad, A7, c7, A8, c8, A14, c14, A15, c15, e, hc 0 _ rfl, by rw [← add_field _ _ 1 (by omega)]; exact hc 1 _ rfl, by rw [← add_field _ _ 2 (by omega)]; exact hc 2 _ rfl, by rw [← add_field _ _ 3 (by omega)]; exact hc 3 _ rfl, by rw [← add_field _ _ 4 (by omega)]; exact hc 4 _ rfl, by rw [← add_field _ _ 5 (by omega)]; exact hc 5 _ rfl, by rw [← add_field _ _ 6 (by omega)]; exact hc 6 _ rfl, by rw [← add_field _ _ 7 (by omega)]; exact hc 7 _ rfl, by rw [← add_field _ _ 8 (by omega)]; exact hc 8 _ rfl, by rw [← add_field _ _ 9 (by omega)]; exact hc 9 _ rfl, by rw [← add_field _ _ 10 (by omega)]; exact hc 10 _ rfl, by rw [← add_field _ _ 11 (by omega)]; exact hc 11 _ rfl, by rw [← add_field _ _ 12 (by omega)]; exact hc 12 _ rfl, by rw [← add_field _ _ 13 (by omega)]; exact hc 13 _ rfl, by rw [← add_field _ _ 14 (by omega)]; exact hc 14 _ rfl, by rw [← add_field _ _ 15 (by omega)]; exact hc 15 _ rfl, l7, g7, l8, g8, l14, g14, l15, g15⟩

end Go.Proofs.YtpgpbaalnmdlaaaGreatDoor.PLearnNone
