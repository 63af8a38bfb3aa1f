/-
  What the law's functions come to: part B.
-/
import Derived.Test.YtjekdholokinjaaGreatDoorHpA
set_option linter.unusedVariables false
set_option linter.unusedSimpArgs false
set_option linter.unusedSectionVars false
section
namespace Go.Abs
open Go.Proofs
set_option maxRecDepth 100000
theorem e35_0 (n : Nat) (m : Nat) (k : Nat) (vs : List Value) (r : List Value) (s : ByteArray) (d : ByteArray) (h0 : decide ((↑k : Int) < (↑m : Int)) = true) (h1 : decide ((↑k : Int) < (↑n : Int)) = true) (h2 : 0 ≤ (↑k : Int) ∧ (↑k : Int) < (↑n : Int)) (h3 : List.take 2 (List.drop (0 + Int.toNat (↑k : Int) * 2) vs) = [Value.string s, Value.string d]) (h4 : 0 ≤ (↑k : Int) ∧ (↑k : Int) < (↑m : Int)) (h5 : 0 + Int.toNat (↑k : Int) * 2 + 2 ≤ List.length r ∧ true = true) :
    Ran (codeO Tryz.prog E1 (smM) noRun 100 35 [0, 0, 1, 0, 1, 1] (codeAt Tryz.f35 [0, 0, 1, 0, 1, 1]) (mkFr 37 (tW n m k)) (mkHp 3 (oW n vs r)) [.skip 4, .b true, .skip 4, .b true, .skip 4, .sym, .l [Value.string s, Value.string d], .sym, .sym] True) (Exit.normal) 37 [(0, Value.chan (some 1)), (3, Value.slice (some (Addr.mk 2 0 none)) m (2 * m)), (4, Value.int IntKind.i64 (IntKind.wrap IntKind.i64 ((↑k : Int) + 1)))] [(0, AObj.rov vs), (1, AObj.word n 0), (2, AObj.cells (putAt r (0 + Int.toNat (↑k : Int) * 2) [Value.string s, Value.string d]) 0)] 3 :=
  cameF_of (O := ((((((True ∧ decide ((↑k : Int) < (↑m : Int)) = true) ∧ decide ((↑k : Int) < (↑n : Int)) = true) ∧ 0 ≤ (↑k : Int) ∧ (↑k : Int) < (↑n : Int)) ∧ List.take 2 (List.drop (0 + Int.toNat (↑k : Int) * 2) vs) = [Value.string s, Value.string d]) ∧ 0 ≤ (↑k : Int) ∧ (↑k : Int) < (↑m : Int)) ∧ 0 + Int.toNat (↑k : Int) * 2 + 2 ≤ List.length r ∧ true = true)) (by kernel_rfl) ⟨⟨⟨⟨⟨⟨trivial, h0⟩, h1⟩, h2⟩, h3⟩, h4⟩, h5⟩
theorem e35_1 (n : Nat) (m : Nat) (k : Nat) (vs : List Value) (r : List Value) (s : ByteArray) (d : ByteArray) (h0 : decide ((↑k : Int) < (↑m : Int)) = true) (h1 : decide ((↑k : Int) < (↑n : Int)) = false) (h2 : Int.NonNeg (IntKind.wrap IntKind.i64 (-3000000 - (↑k : Int)) - -9223372036854775808) ∧ Int.NonNeg (9223372036854775807 - IntKind.wrap IntKind.i64 (-3000000 - (↑k : Int)))) (h3 : 0 ≤ (↑k : Int) ∧ (↑k : Int) < (↑m : Int)) (h4 : 0 + Int.toNat (↑k : Int) * 2 + 2 ≤ List.length r ∧ true = true) :
    Ran (codeO Tryz.prog E1 (smM) noRun 100 35 [0, 0, 1, 0, 1, 1] (codeAt Tryz.f35 [0, 0, 1, 0, 1, 1]) (mkFr 37 (tW n m k)) (mkHp 3 (oW n vs r)) [.skip 4, .b true, .skip 4, .b false, .skip 6, .sym, .sym] True) (Exit.normal) 37 [(0, Value.chan (some 1)), (3, Value.slice (some (Addr.mk 2 0 none)) m (2 * m)), (4, Value.int IntKind.i64 (IntKind.wrap IntKind.i64 ((↑k : Int) + 1)))] [(0, AObj.rov vs), (1, AObj.word n 0), (2, AObj.cells (putAt r (0 + Int.toNat (↑k : Int) * 2) [Value.string (ByteArray.mk #[]), Value.string (ByteArray.mk (List.toArray (markT (IntKind.wrap IntKind.i64 (-3000000 - (↑k : Int))))))]) 0)] 3 :=
  cameF_of (O := (((((True ∧ decide ((↑k : Int) < (↑m : Int)) = true) ∧ decide ((↑k : Int) < (↑n : Int)) = false) ∧ Int.NonNeg (IntKind.wrap IntKind.i64 (-3000000 - (↑k : Int)) - -9223372036854775808) ∧ Int.NonNeg (9223372036854775807 - IntKind.wrap IntKind.i64 (-3000000 - (↑k : Int)))) ∧ 0 ≤ (↑k : Int) ∧ (↑k : Int) < (↑m : Int)) ∧ 0 + Int.toNat (↑k : Int) * 2 + 2 ≤ List.length r ∧ true = true)) (by kernel_rfl) ⟨⟨⟨⟨⟨trivial, h0⟩, h1⟩, h2⟩, h3⟩, h4⟩
theorem e35_2 (n : Nat) (m : Nat) (k : Nat) (vs : List Value) (r : List Value) (s : ByteArray) (d : ByteArray) (h0 : decide ((↑k : Int) < (↑m : Int)) = false) :
    Ran (codeO Tryz.prog E1 (smM) noRun 100 35 [0, 0, 1, 0, 1, 1] (codeAt Tryz.f35 [0, 0, 1, 0, 1, 1]) (mkFr 37 (tW n m k)) (mkHp 3 (oW n vs r)) [.skip 4, .b false] True) (Exit.exit 0) 37 [(0, Value.chan (some 1)), (3, Value.slice (some (Addr.mk 2 0 none)) m (2 * m)), (4, Value.int IntKind.i64 (↑k : Int))] [(0, AObj.rov vs), (1, AObj.word n 0), (2, AObj.cells r 0)] 3 :=
  cameF_of (O := (True ∧ decide ((↑k : Int) < (↑m : Int)) = false)) (by kernel_rfl) ⟨trivial, h0⟩
noncomputable def q35 (n m : Nat) (vs r : List Value) : Sm := withL smM 35 [1, 0, 1, 1] (piece 37 (tW n m 0) (oW n vs (copies [.string ⟨#[]⟩, .string ⟨#[]⟩] m)) 3 .normal (mkFr 37 [(0, .chan (some 1)), (3, .slice (some ⟨2, 0, none⟩) m (2 * m))]) (mkHp 3 (oW n vs r)))
theorem c35_came (n : Nat) (m : Nat) (vs : List Value) (r : List Value) (h0 : IntKind.wrap .i64 ((↑n : Int) + 64) = (↑m : Int) ∧ IntKind.wrap .i64 ((↑n : Int) + 64) = (↑m : Int) ∧ 32 * m ≤ 281474976710656 ∧ m ≤ 9223372036854775807) (h1 : 0 ≤ (↑n : Int)) (h2 : (↑n : Int) ≤ (↑(capOf (2 * m)) : Int)) (h3 : 0 ≤ capOf (2 * m)) (h4 : 0 ≠ capOf (2 * m)) :
    RanC (runO Tryz.prog E1 (q35 n m vs r) noRun 100 35 [Value.chan (some 1)] (mkHp 2 (wordsOs [Wd.v vs n] 0 fun n => n)) [.skip 4, .mk m, .skip 5, .sym] True) (.returned (Value.slice (some ⟨2, 0, none⟩) n (2 * m - 0))) [(0, AObj.rov vs), (1, AObj.word n 0), (2, AObj.cells r 0)] 3 :=
  cameCF_of (O := (((True ∧ IntKind.wrap .i64 ((↑n : Int) + 64) = (↑m : Int) ∧ IntKind.wrap .i64 ((↑n : Int) + 64) = (↑m : Int) ∧ 32 * m ≤ 281474976710656 ∧ m ≤ 9223372036854775807) ∧ SelfP 37 (tW n m 0) (oW n vs (copies [Value.string (ByteArray.mk #[]), Value.string (ByteArray.mk #[])] m)) 3) ∧ ((0 ≤ (↑n : Int) ∧ (↑n : Int) ≤ (↑(capOf (2 * m)) : Int)) ∧ True ∧ 0 ≤ capOf (2 * m)) ∧ 0 ≠ capOf (2 * m))) (by kernel_rfl) ⟨⟨⟨trivial, h0⟩, selfP_true _ _ _ _⟩, ⟨⟨⟨h1, h2⟩, ⟨trivial, h3⟩⟩, h4⟩⟩
theorem iv_get {es : List Idd} {k : Nat} (h : k < es.length) : List.take 2 (List.drop (0 + k * 2) (iv es)) = cellI (es[k]) := by
  rw [Nat.zero_add, iv, rows_at (s := 2) (fun _ _ => rfl) h, List.getD_eq_getElem?_getD, List.getElem?_eq_getElem h]; rfl
theorem cellWI_len (es : List Idd) (j : Nat) : (cellWI es j).length = 2 := by
  unfold cellWI
  split <;> rfl
theorem rowI_plain (es : List Idd) (m : Nat) : PlainC (rowI es m) := by
  intro v hv
  obtain ⟨j, _, hj⟩ := rows_mem hv
  simp only [cellWI] at hj
  split at hj
  · simp [cellI] at hj
    rcases hj with rfl | rfl <;> exact ⟨fun N => by simp, fun σ => by simp [upV]⟩
  · simp [markI] at hj
    rcases hj with rfl | rfl <;> exact ⟨fun N => by simp, fun σ => by simp [upV]⟩
def K35 (es : List Idd) : ConW := ⟨fun X => [X 0], [.v (iv es) es.length], fun σ => .slice (some ⟨σ 2, 0, none⟩) es.length (2 * (es.length + 64)), fun _ => [.cells (rowI es (es.length + 64)) 0]⟩
theorem con35 {es : List Idd} (hsm : es.length < 1099511627776) : ConWG Tab Tryz.prog 35 (K35 es) := by
  have hw : IntKind.i64.wrap ((es.length : Int) + 64) = ((es.length + 64 : Nat) : Int) := by
    rw [i64_small (by omega) (by omega)]; omega
  have hbo : ∀ k, ∀ p ∈ oW es.length (iv es) (fill (cellWI es) (fun _ => zeroI2) (es.length + 64) k), p.1 < 3 ∧ BdO 3 p.2 := by
    intro k p hp
    simp only [oW, List.mem_cons, List.not_mem_nil, or_false] at hp
    rcases hp with rfl | rfl | rfl
    · exact ⟨by simp, trivial⟩
    · exact ⟨by simp, by simp [BdO]⟩
    · refine ⟨by simp, ?_⟩
      intro v hv
      obtain ⟨j, hj0, hj⟩ := rows_mem hv
      simp only at hj
      split at hj
      · exact (rowI_plain es (j + 1) v (by rw [rowI, rows_succ]; exact List.mem_append_right _ hj)).1 _
      · simp [zeroI2] at hj; rcases hj with rfl | rfl <;> simp
  have hF : ∀ k ts, (∀ p ∈ ts, Bd 3 p.2) → smallN ts = true → Fits 3 ts (oW es.length (iv es) (fill (cellWI es) (fun _ => zeroI2) (es.length + 64) k)) 3 := fun k ts h1 h2 => ⟨h2, rfl, h1, hbo k, by decide, by decide⟩
  have hcop : copies [Value.string ⟨#[]⟩, .string ⟨#[]⟩] (es.length + 64) = fill (cellWI es) (fun _ => zeroI2) (es.length + 64) 0 := by rw [copies_rows, fill_zero]; rfl
  have hful : rowI es (es.length + 64) = fill (cellWI es) (fun _ => zeroI2) (es.length + 64) (es.length + 64) := by rw [fill_full]; rfl
  have hcap : capOf (2 * (es.length + 64)) = es.length + 64 := by simp [capOf]
  refine conW_run hP1 (s := q35 es.length (es.length + 64) (iv es) (rowI es (es.length + 64))) (fun pr w0 hG => withL_ok (smM_ok pr w0 hG) (fn := Tryz.f35) (c := .block 0 (.loop (codeAt Tryz.f35 [0, 0, 1, 0, 1, 1]))) (by kernel_rfl) (by kernel_rfl) (block_end (by rw [hcop]; exact hF 0 _ (by simp [tW]) rfl) ?_))
    (c35_came es.length (es.length + 64) (iv es) (rowI es (es.length + 64)) ⟨hw, hw, by omega, by omega⟩ (by omega) (by rw [hcap]; omega) (by omega) (by rw [hcap]; omega)) (by simp [K35, limit]) ⟨rfl, rfl, by simp, by rw [hful]; exact fun p hp => hbo _ p hp, by decide, (by decide : 2 ≤ 3)⟩ (by simp [K35]) (by simp [K35]) (by intro ι ι' f g h; simp [K35, h 0 (by simp [K35])]) (by intro σ; simp [K35, upV]) (by intro σ; simp [K35, upO, (rowI_plain _ _).map]) rfl ?_
  · rw [hcop, hful]
    have hh : Here E1 35 [0, 0, 1, 0, 1, 1] (codeAt Tryz.f35 [0, 0, 1, 0, 1, 1]) := codeAt_here (fn := Tryz.f35) (by kernel_rfl) (by kernel_rfl)
    refine rounds_tri (T := { k : Nat // k ≤ es.length + 64 }) ⟨37, fun t => tW es.length (es.length + 64) t.1, fun t => oW es.length (iv es) (fill (cellWI es) (fun _ => zeroI2) (es.length + 64) t.1), fun _ => 3, fun t => es.length + 64 - t.1⟩ ?_ ⟨0, Nat.zero_le _⟩
    rintro ⟨k, hk⟩
    have hlen : (fill (cellWI es) (fun _ => zeroI2) (es.length + 64) k).length = (es.length + 64) * 2 := by
      rw [fill_length (s := 2) (fun _ _ => cellWI_len _ _) (fun _ _ => rfl)]
    have hk0 : 0 + Int.toNat (k : Int) * 2 = k * 2 := by simp
    by_cases hlt : k < es.length + 64
    · have hput := fill_put (g := cellWI es) (z := fun _ => zeroI2) (s := 2) (m := es.length + 64) (k := k) (fun _ _ => cellWI_len _ _) (fun _ _ => rfl) hlt
      have hk1 := i64_succ (k := k) (by omega)
      by_cases hkn : k < es.length
      · have hek : es[k]? = some es[k] := List.getElem?_eq_getElem hkn
        have hc := e35_0 es.length (es.length + 64) k (iv es) (fill (cellWI es) (fun _ => zeroI2) (es.length + 64) k) es[k].1 es[k].2 (by simp; omega) (by simp; omega) (by omega) (iv_get hkn) (by omega) ⟨by rw [hk0, hlen]; omega, rfl⟩
        rw [hk0, hk1] at hc
        have hcell : [Value.string es[k].1, .string es[k].2] = cellWI es k := by simp only [cellWI, hek, cellI]
        rw [hcell, hput] at hc
        exact on_came hP1 (smM_ok pr w0 hG) hh hc ⟨k + 1, hlt⟩ rfl rfl rfl (by simp only; omega) (hF _ _ (by simp [tW]) rfl)
      · have hek : es[k]? = none := List.getElem?_eq_none (by omega)
        have hc := e35_1 es.length (es.length + 64) k (iv es) (fill (cellWI es) (fun _ => zeroI2) (es.length + 64) k) ⟨#[]⟩ ⟨#[]⟩ (by simp; omega) (by simp; omega) rng_mark (by omega) ⟨by rw [hk0, hlen]; omega, rfl⟩
        rw [hk0, hk1] at hc
        have hcell : [Value.string ⟨#[]⟩, .string ⟨(markT (IntKind.i64.wrap (-3000000 - (k : Int)))).toArray⟩] = cellWI es k := by simp only [cellWI, hek, markI]
        rw [hcell, hput] at hc
        exact on_came hP1 (smM_ok pr w0 hG) hh hc ⟨k + 1, hlt⟩ rfl rfl rfl (by simp only; omega) (hF _ _ (by simp [tW]) rfl)
    · have hk' : k = es.length + 64 := by omega
      subst hk'
      have hc := cut_came (e35_2 es.length (es.length + 64) (es.length + 64) (iv es) (fill (cellWI es) (fun _ => zeroI2) (es.length + 64) (es.length + 64)) ⟨#[]⟩ ⟨#[]⟩ (by simp)) (ts' := [(0, .chan (some 1)), (3, .slice (some ⟨2, 0, none⟩) (es.length + 64) (2 * (es.length + 64)))]) (by simp)
      exact out_came hP1 (smM_ok pr w0 hG) hh hc (by simp) (by simp) (hF _ _ (by simp) rfl) ⟨rfl, rfl, rfl⟩
  · intro j o' hj
    match j, hj with
    | 0, hj => exact hj
    | j + 1, hj => simp [K35] at hj
end Go.Abs
end
section
namespace Go.Abs
open Go.Proofs
set_option maxRecDepth 100000
def pk33 (bs : List Int) : SumO := fun args μ => viewW args ⟨fun X => [X 0], [.v (bv bs) bs.length], fun σ => .slice (some ⟨σ 2, 0, none⟩) bs.length (2 * (bs.length + 64)), fun _ => [.cells (row26 bs (bs.length + 64)) 0]⟩ args μ
def pk34 (es : List Ent) : SumO := fun args μ => viewW args ⟨fun X => [X 0], [.v (av es) es.length], fun σ => .slice (some ⟨σ 2, 0, none⟩) es.length (2 * (es.length + 64)), fun _ => [.cells (row27 es (es.length + 64)) 0]⟩ args μ
def pk35 (es : List Idd) : SumO := fun args μ => viewW args ⟨fun X => [X 0], [.v (iv es) es.length], fun σ => .slice (some ⟨σ 2, 0, none⟩) es.length (2 * (es.length + 64)), fun _ => [.cells (rowI es (es.length + 64)) 0]⟩ args μ
def K36 (ds : List Deep) (n : Nat) (rw : List Deep) : ConW := ⟨fun X => [X 0], [.d ds n], fun σ => .slice (some ⟨σ 2, 0, none⟩) n (2 * (n + 64)), fun _ => [.mix rw 0]⟩
def pk36 (ds : List Deep) (n : Nat) (rw : List Deep) : SumO := fun args μ => viewW args (K36 ds n rw) args μ
def s21 (u : Hd) (ds : List Deep) (n : Nat) (rw : List Deep) : Sm := withS (withS (withS (withS sm0 33 (pk33 u.bs)) 34 (pk34 u.es)) 35 (pk35 u.who)) 36 (pk36 ds n rw)
theorem c21_came (u : Hd) (ds : List Deep) (n : Nat) (rw : List Deep)  :
    RanC (runO Tryz.prog E1 (s21 u ds n rw) noRun 100 21 [Value.agg (Array.mk (rqVals u (Value.chan (some 1)) (Value.chan (some 3)) (Value.chan (some 5)) (Value.chan (some 7))))] (mkHp 8 (wordsOs (wsRq u ds n) 0 fun n => n)) [] True) (.returned (Value.agg (Array.mk [Value.int .i8 u.k, Value.string u.pa, Value.slice (some ⟨12, 0, none⟩) (List.length u.bs) (2 * (List.length u.bs + 64)), Value.slice (some ⟨15, 0, none⟩) (List.length u.es) (2 * (List.length u.es + 64)), Value.int .i32 u.ver, Value.bool u.eph, Value.bool u.sq, Value.int .i64 u.ses, Value.int .i32 u.tmo, Value.slice (some ⟨18, 0, none⟩) (List.length u.who) (2 * (List.length u.who + 64)), Value.slice (some ⟨21, 0, none⟩) n (2 * (n + 64))]))) [(0, AObj.rov (bv u.bs)), (1, AObj.word (List.length u.bs) 0), (2, AObj.rov (av u.es)), (3, AObj.word (List.length u.es) 2), (4, AObj.rov (iv u.who)), (5, AObj.word (List.length u.who) 4), (6, AObj.ro ds), (7, AObj.word n 6), (8, AObj.cells [Value.int .i8 u.k, Value.string u.pa, Value.slice (some ⟨12, 0, none⟩) (List.length u.bs) (2 * (List.length u.bs + 64)), Value.slice (some ⟨15, 0, none⟩) (List.length u.es) (2 * (List.length u.es + 64)), Value.int .i32 u.ver, Value.bool u.eph, Value.bool u.sq, Value.int .i64 u.ses, Value.int .i32 u.tmo, Value.slice (some ⟨18, 0, none⟩) (List.length u.who) (2 * (List.length u.who + 64)), Value.slice (some ⟨21, 0, none⟩) n (2 * (n + 64))] 0), (9, AObj.cells [Value.int .i8 u.k, Value.string u.pa, Value.slice (some ⟨12, 0, none⟩) (List.length u.bs) (2 * (List.length u.bs + 64)), Value.slice (some ⟨15, 0, none⟩) (List.length u.es) (2 * (List.length u.es + 64)), Value.int .i32 u.ver, Value.bool u.eph, Value.bool u.sq, Value.int .i64 u.ses, Value.int .i32 u.tmo, Value.slice (some ⟨18, 0, none⟩) (List.length u.who) (2 * (List.length u.who + 64)), Value.slice (some ⟨21, 0, none⟩) n (2 * (n + 64))] 0), (10, AObj.rov (bv u.bs)), (11, AObj.word (List.length u.bs) 10), (12, AObj.cells (row26 u.bs (List.length u.bs + 64)) 0), (13, AObj.rov (av u.es)), (14, AObj.word (List.length u.es) 13), (15, AObj.cells (row27 u.es (List.length u.es + 64)) 0), (16, AObj.rov (iv u.who)), (17, AObj.word (List.length u.who) 16), (18, AObj.cells (rowI u.who (List.length u.who + 64)) 0), (19, AObj.ro ds), (20, AObj.word n 19), (21, AObj.mix rw 0)] 22 :=
  cameCF_of (O := ((((True ∧ [Value.chan (some 1)] = [Value.chan (some 1)] ∧ (Wd.len (Wd.v (bv u.bs) (List.length u.bs)) = Wd.len (Wd.v (bv u.bs) (List.length u.bs)) ∧ bv u.bs = bv u.bs) ∧ True) ∧ [Value.chan (some 3)] = [Value.chan (some 3)] ∧ (Wd.len (Wd.v (av u.es) (List.length u.es)) = Wd.len (Wd.v (av u.es) (List.length u.es)) ∧ av u.es = av u.es) ∧ True) ∧ [Value.chan (some 5)] = [Value.chan (some 5)] ∧ (Wd.len (Wd.v (iv u.who) (List.length u.who)) = Wd.len (Wd.v (iv u.who) (List.length u.who)) ∧ iv u.who = iv u.who) ∧ True) ∧ [Value.chan (some 7)] = [Value.chan (some 7)] ∧ (Wd.len (Wd.d ds n) = Wd.len (Wd.d ds n) ∧ ds = ds) ∧ True)) (by kernel_rfl) ⟨⟨⟨⟨trivial, ⟨rfl, ⟨⟨rfl, rfl⟩, trivial⟩⟩⟩, ⟨rfl, ⟨⟨rfl, rfl⟩, trivial⟩⟩⟩, ⟨rfl, ⟨⟨rfl, rfl⟩, trivial⟩⟩⟩, ⟨rfl, ⟨⟨rfl, rfl⟩, trivial⟩⟩⟩
def vW (u : Hd) (n a b c d : Nat) : List Value := rqVals u (.slice (some ⟨a, 0, none⟩) u.bs.length (2 * (u.bs.length + 64))) (.slice (some ⟨b, 0, none⟩) u.es.length (2 * (u.es.length + 64))) (.slice (some ⟨c, 0, none⟩) u.who.length (2 * (u.who.length + 64))) (.slice (some ⟨d, 0, none⟩) n (2 * (n + 64)))
def K21 (u : Hd) (ds : List Deep) (n : Nat) (rw : List Deep) : ConW := ⟨fun X => [.agg ⟨rqVals u (X 0) (X 1) (X 2) (X 3)⟩], wsRq u ds n, fun σ => .agg ⟨vW u n (σ 12) (σ 15) (σ 18) (σ 21)⟩,
  fun σ => [.cells (vW u n (σ 12) (σ 15) (σ 18) (σ 21)) 0, .cells (vW u n (σ 12) (σ 15) (σ 18) (σ 21)) 0, .rov (bv u.bs), .word u.bs.length (σ 10), .cells (row26 u.bs (u.bs.length + 64)) 0, .rov (av u.es), .word u.es.length (σ 13), .cells (row27 u.es (u.es.length + 64)) 0, .rov (iv u.who), .word u.who.length (σ 16), .cells (rowI u.who (u.who.length + 64)) 0, .ro ds, .word n (σ 19), .mix rw 0]⟩
theorem pk33_ok {pr : Prot} {w0 : World} (hG : Tab pr w0) {bs : List Int} (h : bs.length < 1099511627776) : SumOk Tryz.prog pr w0 0 33 (pk33 bs) := fun args μ e μ' p hg hp => viewW_ok tab_stands hG (con26 h) args args μ e μ' p hg hp
theorem pk34_ok {pr : Prot} {w0 : World} (hG : Tab pr w0) {es : List Ent} (h : es.length < 1099511627776) : SumOk Tryz.prog pr w0 0 34 (pk34 es) := fun args μ e μ' p hg hp => viewW_ok tab_stands hG (con27 h) args args μ e μ' p hg hp
theorem pk35_ok {pr : Prot} {w0 : World} (hG : Tab pr w0) {es : List Idd} (h : es.length < 1099511627776) : SumOk Tryz.prog pr w0 0 35 (pk35 es) := fun args μ e μ' p hg hp => viewW_ok tab_stands hG (con35 h) args args μ e μ' p hg hp
structure Hd.small (h : Hd) : Prop where
  bs : h.bs.length < 1099511627776
  es : h.es.length < 1099511627776
  who : h.who.length < 1099511627776
theorem con21 {u : Hd} {ds : List Deep} {n : Nat} {rw : List Deep} (hu : u.small) (hc : ConWG Tab Tryz.prog 36 (K36 ds n rw)) : ConWG Tab Tryz.prog 21 (K21 u ds n rw) := by
  refine conW_run hP1 (s := s21 u ds n rw) (fun pr w0 hG => withS_ok (withS_ok (withS_ok (withS_ok (sm0_ok pr w0) (pk33_ok hG hu.bs)) (pk34_ok hG hu.es)) (pk35_ok hG hu.who)) (fun args μ e μ' p hg hp => viewW_ok tab_stands hG hc args args μ e μ' p hg hp)) (c21_came u ds n rw) (by simp [K21, wsRq, limit]) ⟨rfl, rfl, by simp, ?_, by decide, by simp [K21, wsRq]⟩ (by simp [K21, rqVals, wsRq]) (by simp [K21, vW, rqVals]) (fun ι ι' f g h => by simp [K21, rqVals, h 0 (by simp [K21, wsRq]), h 1 (by simp [K21, wsRq]), h 2 (by simp [K21, wsRq]), h 3 (by simp [K21, wsRq])]) (by intro σ; simp [K21, vW, rqVals, upV]) (by intro σ; simp [K21, vW, rqVals, upO, upV, (row26_plain _ _).map, (row27_plain _ _).map, (rowI_plain _ _).map]) rfl ?_
  · intro p hp
    simp only [List.mem_cons, List.not_mem_nil, or_false] at hp
    rcases hp with rfl | rfl | rfl | rfl | rfl | rfl | rfl | rfl | rfl | rfl | rfl | rfl | rfl | rfl | rfl | rfl | rfl | rfl | rfl | rfl | rfl | rfl <;>
      first
      | exact ⟨by simp, trivial⟩
      | exact ⟨by simp, fun v hv => (row26_plain _ _ v hv).1 _⟩
      | exact ⟨by simp, fun v hv => (row27_plain _ _ v hv).1 _⟩
      | exact ⟨by simp, fun v hv => (rowI_plain _ _ v hv).1 _⟩
      | exact ⟨by simp, by simp [BdO]⟩
  · intro j o' hj
    match j, hj with
    | 0, hj => exact hj
    | 1, hj => exact hj
    | 2, hj => exact hj
    | 3, hj => exact hj
    | 4, hj => exact hj
    | 5, hj => exact hj
    | 6, hj => exact hj
    | 7, hj => exact hj
    | 8, hj => exact hj
    | 9, hj => exact hj
    | 10, hj => exact hj
    | 11, hj => exact hj
    | 12, hj => exact hj
    | 13, hj => exact hj
    | j + 14, hj => simp [K21] at hj
end Go.Abs
end
section
namespace Go.Abs
open Go.Proofs
set_option maxRecDepth 100000
def zeroR : List Value := rqVals ⟨0, ⟨#[]⟩, [], [], 0, false, false, 0, 0, []⟩ (.slice none 0 0) (.slice none 0 0) (.slice none 0 0) (.slice none 0 0)
def t36 (m k : Nat) : List (Nat × Value) := [(0, .chan (some 1)), (3, .slice (some ⟨2, 0, none⟩) m (2 * m)), (4, .int .i64 k)]
def o36 (n : Nat) (ds r : List Deep) : List (Nat × AObj) := [(0, .ro ds), (1, .word n 0), (2, .mix r 0)]
def pk21 (u : Hd) (ds : List Deep) (n : Nat) (rw : List Deep) : SumO := fun args μ => match args with
  | [.agg ⟨[_, _, d, a, _, _, _, _, _, w, o]⟩] => viewW [d, a, w, o] (K21 u ds n rw) args μ
  | _ => none
def s36 (u : Hd) (ds : List Deep) (n : Nat) (rw : List Deep) : Sm := withS sm0 21 (pk21 u ds n rw)
theorem e36a_came (n : Nat) (m : Nat) (k : Nat) (ds : List Deep) (r : List Deep) (u : Hd) (d1 : List Deep) (n1 : Nat) (rw : List Deep) (h0 : decide ((↑k : Int) < (↑m : Int)) = true) (h1 : decide ((↑k : Int) < (↑n : Int)) = true) (h2 : 0 ≤ (↑k : Int) ∧ (↑k : Int) < (↑n : Int)) (h3 : List.take 11 (List.drop (0 + Int.toNat (↑k : Int) * 11) ds) = rqD u d1 n1) (h4 : List.all (row26 u.bs (List.length u.bs + 64)) atom = true) (h5 : List.all (row27 u.es (List.length u.es + 64)) atom = true) (h6 : List.all (rowI u.who (List.length u.who + 64)) atom = true) (h7 : 0 ≤ (↑k : Int) ∧ (↑k : Int) < (↑m : Int)) (h8 : 0 + Int.toNat (↑k : Int) * 11 + 11 ≤ List.length r ∧ true = true) :
    Ran (codeO Tryz.prog E1 (s36 u d1 n1 rw) noRun 100 36 [0, 0, 1, 0, 1, 1] (codeAt Tryz.f36 [0, 0, 1, 0, 1, 1]) (mkFr 37 (t36 m k)) (mkHp 3 (o36 n ds r)) [.skip 4, .b true, .skip 4, .b true, .skip 4, .sym, .dp (rqD u d1 n1), .skip 1, .frz 23, .frz 26, .frz 29, .frz 32, .sym, .sym] True) (Exit.normal) 37 [(0, Value.chan (some 1)), (3, Value.slice (some ⟨2, 0, none⟩) m (2 * m)), (4, Value.int .i64 (IntKind.wrap .i64 ((↑k : Int) + 1)))] [(0, AObj.ro ds), (1, AObj.word n 0), (2, AObj.mix (putAt r (0 + Int.toNat (↑k : Int) * 11) [Deep.val (Value.int .i8 u.k), Deep.val (Value.string u.pa), Deep.rowc (List.drop 0 (List.map Deep.val (row26 u.bs (List.length u.bs + 64)))) (List.length u.bs) (2 * (List.length u.bs + 64)), Deep.rowc (List.drop 0 (List.map Deep.val (row27 u.es (List.length u.es + 64)))) (List.length u.es) (2 * (List.length u.es + 64)), Deep.val (Value.int .i32 u.ver), Deep.val (Value.bool u.eph), Deep.val (Value.bool u.sq), Deep.val (Value.int .i64 u.ses), Deep.val (Value.int .i32 u.tmo), Deep.rowc (List.drop 0 (List.map Deep.val (rowI u.who (List.length u.who + 64)))) (List.length u.who) (2 * (List.length u.who + 64)), Deep.rowc (List.drop 0 rw) n1 (2 * (n1 + 64))]) 0), (3, AObj.rov (bv u.bs)), (4, AObj.word (List.length u.bs) 3), (5, AObj.rov (av u.es)), (6, AObj.word (List.length u.es) 5), (7, AObj.rov (iv u.who)), (8, AObj.word (List.length u.who) 7), (9, AObj.ro d1), (10, AObj.word n1 9), (11, AObj.rov (bv u.bs)), (12, AObj.word (List.length u.bs) 11), (13, AObj.rov (av u.es)), (14, AObj.word (List.length u.es) 13), (15, AObj.rov (iv u.who)), (16, AObj.word (List.length u.who) 15), (17, AObj.ro d1), (18, AObj.word n1 17), (19, AObj.cells [Value.int .i8 u.k, Value.string u.pa, Value.slice (some ⟨23, 0, none⟩) (List.length u.bs) (2 * (List.length u.bs + 64)), Value.slice (some ⟨26, 0, none⟩) (List.length u.es) (2 * (List.length u.es + 64)), Value.int .i32 u.ver, Value.bool u.eph, Value.bool u.sq, Value.int .i64 u.ses, Value.int .i32 u.tmo, Value.slice (some ⟨29, 0, none⟩) (List.length u.who) (2 * (List.length u.who + 64)), Value.slice (some ⟨32, 0, none⟩) n1 (2 * (n1 + 64))] 0), (20, AObj.cells [Value.int .i8 u.k, Value.string u.pa, Value.slice (some ⟨23, 0, none⟩) (List.length u.bs) (2 * (List.length u.bs + 64)), Value.slice (some ⟨26, 0, none⟩) (List.length u.es) (2 * (List.length u.es + 64)), Value.int .i32 u.ver, Value.bool u.eph, Value.bool u.sq, Value.int .i64 u.ses, Value.int .i32 u.tmo, Value.slice (some ⟨29, 0, none⟩) (List.length u.who) (2 * (List.length u.who + 64)), Value.slice (some ⟨32, 0, none⟩) n1 (2 * (n1 + 64))] 0), (21, AObj.rov (bv u.bs)), (22, AObj.word (List.length u.bs) 21), (23, AObj.rov (row26 u.bs (List.length u.bs + 64))), (24, AObj.rov (av u.es)), (25, AObj.word (List.length u.es) 24), (26, AObj.rov (row27 u.es (List.length u.es + 64))), (27, AObj.rov (iv u.who)), (28, AObj.word (List.length u.who) 27), (29, AObj.rov (rowI u.who (List.length u.who + 64))), (30, AObj.ro d1), (31, AObj.word n1 30), (32, AObj.ro rw)] 33 :=
  cameF_of (O := ((((((((((True ∧ decide ((↑k : Int) < (↑m : Int)) = true) ∧ decide ((↑k : Int) < (↑n : Int)) = true) ∧ 0 ≤ (↑k : Int) ∧ (↑k : Int) < (↑n : Int)) ∧ List.take 11 (List.drop (0 + Int.toNat (↑k : Int) * 11) ds) = rqD u d1 n1) ∧ [Value.agg (Array.mk [Value.int .i8 u.k, Value.string u.pa, Value.chan (some 4), Value.chan (some 6), Value.int .i32 u.ver, Value.bool u.eph, Value.bool u.sq, Value.int .i64 u.ses, Value.int .i32 u.tmo, Value.chan (some 8), Value.chan (some 10)])] = [Value.agg (Array.mk [Value.int .i8 u.k, Value.string u.pa, Value.chan (some 4), Value.chan (some 6), Value.int .i32 u.ver, Value.bool u.eph, Value.bool u.sq, Value.int .i64 u.ses, Value.int .i32 u.tmo, Value.chan (some 8), Value.chan (some 10)])] ∧ (Wd.len (Wd.v (bv u.bs) (List.length u.bs)) = Wd.len (Wd.v (bv u.bs) (List.length u.bs)) ∧ bv u.bs = bv u.bs) ∧ (Wd.len (Wd.v (av u.es) (List.length u.es)) = Wd.len (Wd.v (av u.es) (List.length u.es)) ∧ av u.es = av u.es) ∧ (Wd.len (Wd.v (iv u.who) (List.length u.who)) = Wd.len (Wd.v (iv u.who) (List.length u.who)) ∧ iv u.who = iv u.who) ∧ (Wd.len (Wd.d d1 n1) = Wd.len (Wd.d d1 n1) ∧ d1 = d1) ∧ True) ∧ List.all (row26 u.bs (List.length u.bs + 64)) atom = true) ∧ List.all (row27 u.es (List.length u.es + 64)) atom = true) ∧ List.all (rowI u.who (List.length u.who + 64)) atom = true) ∧ 0 ≤ (↑k : Int) ∧ (↑k : Int) < (↑m : Int)) ∧ 0 + Int.toNat (↑k : Int) * 11 + 11 ≤ List.length r ∧ true = true)) (by kernel_rfl) ⟨⟨⟨⟨⟨⟨⟨⟨⟨⟨trivial, h0⟩, h1⟩, h2⟩, h3⟩, ⟨rfl, ⟨⟨rfl, rfl⟩, ⟨⟨rfl, rfl⟩, ⟨⟨rfl, rfl⟩, ⟨⟨rfl, rfl⟩, trivial⟩⟩⟩⟩⟩⟩, h4⟩, h5⟩, h6⟩, h7⟩, h8⟩
theorem e36b_came (n : Nat) (m : Nat) (k : Nat) (ds : List Deep) (r : List Deep) (h0 : decide ((↑k : Int) < (↑m : Int)) = true) (h1 : decide ((↑k : Int) < (↑n : Int)) = false) (h2 : 0 ≤ (↑k : Int) ∧ (↑k : Int) < (↑m : Int)) (h3 : 0 + Int.toNat (↑k : Int) * 11 + 11 ≤ List.length r ∧ true = true) :
    Ran (codeO Tryz.prog E1 (sm0) noRun 100 36 [0, 0, 1, 0, 1, 1] (codeAt Tryz.f36 [0, 0, 1, 0, 1, 1]) (mkFr 37 (t36 m k)) (mkHp 3 (o36 n ds r)) [.skip 4, .b true, .skip 4, .b false, .skip 5, .sym, .sym] True) (Exit.normal) 37 [(0, Value.chan (some 1)), (3, Value.slice (some ⟨2, 0, none⟩) m (2 * m)), (4, Value.int .i64 (IntKind.wrap .i64 ((↑k : Int) + 1)))] [(0, AObj.ro ds), (1, AObj.word n 0), (2, AObj.mix (putAt r (0 + Int.toNat (↑k : Int) * 11) [Deep.val (Value.int .i8 0), Deep.val (Value.string (ByteArray.mk #[])), Deep.val (Value.slice none 0 0), Deep.val (Value.slice none 0 0), Deep.val (Value.int .i32 0), Deep.val (Value.bool false), Deep.val (Value.bool false), Deep.val (Value.int .i64 (IntKind.wrap .i64 (-3000000 - (↑k : Int)))), Deep.val (Value.int .i32 0), Deep.val (Value.slice none 0 0), Deep.val (Value.slice none 0 0)]) 0)] 3 :=
  cameF_of (O := ((((True ∧ decide ((↑k : Int) < (↑m : Int)) = true) ∧ decide ((↑k : Int) < (↑n : Int)) = false) ∧ 0 ≤ (↑k : Int) ∧ (↑k : Int) < (↑m : Int)) ∧ 0 + Int.toNat (↑k : Int) * 11 + 11 ≤ List.length r ∧ true = true)) (by kernel_rfl) ⟨⟨⟨⟨trivial, h0⟩, h1⟩, h2⟩, h3⟩
theorem e36c_came (n : Nat) (m : Nat) (k : Nat) (ds : List Deep) (r : List Deep) (h0 : decide ((↑k : Int) < (↑m : Int)) = false) :
    Ran (codeO Tryz.prog E1 (sm0) noRun 100 36 [0, 0, 1, 0, 1, 1] (codeAt Tryz.f36 [0, 0, 1, 0, 1, 1]) (mkFr 37 (t36 m k)) (mkHp 3 (o36 n ds r)) [.skip 4, .b false] True) (Exit.exit 0) 37 [(0, Value.chan (some 1)), (3, Value.slice (some ⟨2, 0, none⟩) m (2 * m)), (4, Value.int .i64 (↑k : Int))] [(0, AObj.ro ds), (1, AObj.word n 0), (2, AObj.mix r 0)] 3 :=
  cameF_of (O := (True ∧ decide ((↑k : Int) < (↑m : Int)) = false)) (by kernel_rfl) ⟨trivial, h0⟩
noncomputable def q36 (n m : Nat) (ds r : List Deep) : Sm := withL sm0 36 [1, 0, 1, 1] (piece 37 (t36 m 0) (o36 n ds ((copies zeroR m).map .val)) 3 .normal (mkFr 37 [(0, .chan (some 1)), (3, .slice (some ⟨2, 0, none⟩) m (2 * m))]) (mkHp 3 (o36 n ds r)))
theorem c36_came (n : Nat) (m : Nat) (ds : List Deep) (r : List Deep) (h0 : IntKind.wrap .i64 ((↑n : Int) + 64) = (↑m : Int) ∧ IntKind.wrap .i64 ((↑n : Int) + 64) = (↑m : Int) ∧ 144 * m ≤ 281474976710656 ∧ m ≤ 9223372036854775807) (h1 : List.all (copies (Value.cells (Value.agg #[Value.int .i8 0, Value.string (ByteArray.mk #[]), Value.slice none 0 0, Value.slice none 0 0, Value.int .i32 0, Value.bool false, Value.bool false, Value.int .i64 0, Value.int .i32 0, Value.slice none 0 0, Value.slice none 0 0])).toList m) atom = true) (h2 : 0 ≤ (↑n : Int)) (h3 : (↑n : Int) ≤ (↑(capOf (2 * m)) : Int)) (h4 : 0 ≤ capOf (2 * m)) (h5 : 0 ≠ capOf (2 * m)) :
    RanC (runO Tryz.prog E1 (q36 n m ds r) noRun 100 36 [Value.chan (some 1)] (mkHp 2 (wordsOs [Wd.d ds n] 0 fun n => n)) [.skip 4, .mk m, .skip 1, .asMix 2, .skip 4, .sym] True) (.returned (Value.slice (some ⟨2, 0, none⟩) n (2 * m - 0))) [(0, AObj.ro ds), (1, AObj.word n 0), (2, AObj.mix r 0)] 3 :=
  cameCF_of (O := ((((True ∧ IntKind.wrap .i64 ((↑n : Int) + 64) = (↑m : Int) ∧ IntKind.wrap .i64 ((↑n : Int) + 64) = (↑m : Int) ∧ 144 * m ≤ 281474976710656 ∧ m ≤ 9223372036854775807) ∧ List.all (copies (Value.cells (Value.agg #[Value.int .i8 0, Value.string (ByteArray.mk #[]), Value.slice none 0 0, Value.slice none 0 0, Value.int .i32 0, Value.bool false, Value.bool false, Value.int .i64 0, Value.int .i32 0, Value.slice none 0 0, Value.slice none 0 0])).toList m) atom = true) ∧ SelfP 37 (t36 m 0) (o36 n ds (List.map Deep.val (copies zeroR m))) 3) ∧ ((0 ≤ (↑n : Int) ∧ (↑n : Int) ≤ (↑(capOf (2 * m)) : Int)) ∧ True ∧ 0 ≤ capOf (2 * m)) ∧ 0 ≠ capOf (2 * m))) (by kernel_rfl) ⟨⟨⟨⟨trivial, h0⟩, h1⟩, selfP_true _ _ _ _⟩, ⟨⟨⟨h2, h3⟩, ⟨trivial, h4⟩⟩, h5⟩⟩
theorem row26_atoms (bs : List Int) (m : Nat) : List.all (row26 bs m) atom = true := List.all_eq_true.2 fun v hv => by
  obtain ⟨j, _, hj⟩ := rows_mem hv
  simp at hj
  subst hj
  rfl
theorem row27_atoms (es : List Ent) (m : Nat) : List.all (row27 es m) atom = true := List.all_eq_true.2 fun v hv => by
  obtain ⟨j, _, hj⟩ := rows_mem hv
  simp only [cell27] at hj
  split at hj
  · simp [cellA] at hj
    rcases hj with rfl | rfl | rfl <;> rfl
  · simp [markA] at hj
    rcases hj with rfl | rfl | rfl <;> rfl
theorem rowI_atoms (es : List Idd) (m : Nat) : List.all (rowI es m) atom = true := List.all_eq_true.2 fun v hv => by
  obtain ⟨j, _, hj⟩ := rows_mem hv
  simp only [cellWI] at hj
  split at hj
  · simp [cellI] at hj
    rcases hj with rfl | rfl <;> rfl
  · simp [markI] at hj
    rcases hj with rfl | rfl <;> rfl
theorem copies_atoms {z : List Value} (h : ∀ v ∈ z, atom v = true) (m : Nat) : List.all (copies z m) atom = true := List.all_eq_true.2 fun v hv => by
  rw [copies_rows] at hv
  obtain ⟨j, _, hj⟩ := rows_mem hv
  exact h v hj
theorem cellWR_len (l : List Rq) (j : Nat) : (cellWR l j).length = 11 := by
  unfold cellWR
  split
  · exact Rq.w_len _
  · rfl
theorem Rq.w_eq (r : Rq) : r.w = rqW r.h (rowR r.ops (r.ops.length + 64)) r.ops.length := by
  cases r
  rw [Rq.w, rowR_eq]
  rfl
theorem pk21_ok {pr : Prot} {w0 : World} (hG : Tab pr w0) {u : Hd} {ds : List Deep} {n : Nat} {rw : List Deep} (hu : u.small) (hc : ConWG Tab Tryz.prog 36 (K36 ds n rw)) : SumOk Tryz.prog pr w0 0 21 (pk21 u ds n rw) := by
  intro args μ e μ' p hg
  unfold pk21 at hg
  split at hg
  · exact viewW_ok tab_stands hG (con21 hu hc) _ _ μ e μ' p hg
  · cases hg
def Kr (l : List Rq) : ConW := K36 (rqsD l) l.length (rowR l (l.length + 64))
theorem con36 {l : List Rq} (hl : l.length < 1099511627776) (hs : ∀ r ∈ l, r.h.small ∧ ConWG Tab Tryz.prog 36 (Kr r.ops)) : ConWG Tab Tryz.prog 36 (Kr l) := by
  have hw : IntKind.i64.wrap ((l.length : Int) + 64) = ((l.length + 64 : Nat) : Int) := by
    rw [i64_small (by omega) (by omega)]; omega
  have hz : ∀ j, j < l.length + 64 → ((fun _ => zeroR.map Deep.val) j : List Deep).length = 11 := fun _ _ => rfl
  have hbo : ∀ k, ∀ p ∈ o36 l.length (rqsD l) (fill (cellWR l) (fun _ => zeroR.map Deep.val) (l.length + 64) k), p.1 < 3 ∧ BdO 3 p.2 := by
    intro k p hp
    simp only [o36, List.mem_cons, List.not_mem_nil, or_false] at hp
    rcases hp with rfl | rfl | rfl
    · exact ⟨by simp, trivial⟩
    · exact ⟨by simp, by simp [BdO]⟩
    · exact ⟨by simp, trivial⟩
  have hF : ∀ k ts, (∀ p ∈ ts, Bd 3 p.2) → smallN ts = true → Fits 3 ts (o36 l.length (rqsD l) (fill (cellWR l) (fun _ => zeroR.map Deep.val) (l.length + 64) k)) 3 := fun k ts h1 h2 => ⟨h2, rfl, h1, hbo k, by decide, by decide⟩
  have hcop : (copies zeroR (l.length + 64)).map Deep.val = fill (cellWR l) (fun _ => zeroR.map Deep.val) (l.length + 64) 0 := by rw [copies_rows, fill_zero, rows_map]
  have hful : rowR l (l.length + 64) = fill (cellWR l) (fun _ => zeroR.map Deep.val) (l.length + 64) (l.length + 64) := by rw [fill_full]; rfl
  have hcap : capOf (2 * (l.length + 64)) = l.length + 64 := by simp [capOf]
  unfold Kr
  refine conW_run hP1 (s := q36 l.length (l.length + 64) (rqsD l) (rowR l (l.length + 64))) (fun pr w0 hG => withL_ok (sm0_ok pr w0) (fn := Tryz.f36) (c := .block 0 (.loop (codeAt Tryz.f36 [0, 0, 1, 0, 1, 1]))) (by kernel_rfl) (by kernel_rfl) (block_end (by rw [hcop]; exact hF 0 _ (by simp [t36]) rfl) ?_))
    (c36_came l.length (l.length + 64) (rqsD l) (rowR l (l.length + 64)) ⟨hw, hw, by omega, by omega⟩ (copies_atoms (by simp [Value.cells, atom]) _) (by omega) (by rw [hcap]; omega) (by omega) (by rw [hcap]; omega)) (by simp [K36, limit]) ⟨rfl, rfl, by simp, by rw [hful]; exact fun p hp => hbo _ p hp, by decide, (by simp [K36])⟩ (by simp [K36]) (by simp [K36]) (by intro ι ι' f g h; simp [K36, h 0 (by simp [K36])]) (by intro σ; simp [K36, upV]) (by intro σ; simp [K36, upO]) rfl ?_
  · rw [hcop, hful]
    have hh : Here E1 36 [0, 0, 1, 0, 1, 1] (codeAt Tryz.f36 [0, 0, 1, 0, 1, 1]) := codeAt_here (fn := Tryz.f36) (by kernel_rfl) (by kernel_rfl)
    refine rounds_tri (T := { k : Nat // k ≤ l.length + 64 }) ⟨37, fun t => t36 (l.length + 64) t.1, fun t => o36 l.length (rqsD l) (fill (cellWR l) (fun _ => zeroR.map Deep.val) (l.length + 64) t.1), fun _ => 3, fun t => l.length + 64 - t.1⟩ ?_ ⟨0, Nat.zero_le _⟩
    rintro ⟨k, hk⟩
    have hlen : (fill (cellWR l) (fun _ => zeroR.map Deep.val) (l.length + 64) k).length = (l.length + 64) * 11 := fill_length (s := 11) (fun _ _ => cellWR_len _ _) hz
    have hk0 : 0 + Int.toNat (k : Int) * 11 = k * 11 := by simp
    by_cases hlt : k < l.length + 64
    · have hput := fill_put (g := cellWR l) (z := fun _ => zeroR.map Deep.val) (s := 11) (m := l.length + 64) (k := k) (fun _ _ => cellWR_len _ _) hz hlt
      have hk1 := i64_succ (k := k) (by omega)
      by_cases hkn : k < l.length
      · have hek : l[k]? = some l[k] := List.getElem?_eq_getElem hkn
        obtain ⟨hsm, hcr⟩ := hs l[k] (List.getElem_mem hkn)
        have hc := e36a_came l.length (l.length + 64) k (rqsD l) (fill (cellWR l) (fun _ => zeroR.map Deep.val) (l.length + 64) k) l[k].h (rqsD l[k].ops) l[k].ops.length (rowR l[k].ops (l[k].ops.length + 64)) (by simp; omega) (by simp; omega) (by omega) (by rw [rqsD_get hkn, Rq.d_eq]) (row26_atoms _ _) (row27_atoms _ _) (rowI_atoms _ _) (by omega) ⟨by rw [hk0, hlen]; omega, rfl⟩
        have hcell : cellWR l k = rqW l[k].h (rowR l[k].ops (l[k].ops.length + 64)) l[k].ops.length := by simp only [cellWR, hek, Rq.w_eq]
        rw [hk0, hk1] at hc
        rw [hcell] at hput
        refine on_keep hP1 (withS_ok (sm0_ok pr w0) (pk21_ok hG hsm hcr)) hh hc ⟨k + 1, hlt⟩ (by simp [t36]) ?_ (by simp only; omega) (hF _ _ (by simp [t36]) rfl)
        intro p hp
        simp only [o36, List.mem_cons, List.not_mem_nil, or_false] at hp
        rcases hp with rfl | rfl | rfl
        · simp
        · simp
        · rw [← hput]
          exact List.mem_cons_of_mem _ (List.mem_cons_of_mem _ (List.mem_cons_self ..))
      · have hek : l[k]? = none := List.getElem?_eq_none (by omega)
        have hc := e36b_came l.length (l.length + 64) k (rqsD l) (fill (cellWR l) (fun _ => zeroR.map Deep.val) (l.length + 64) k) (by simp; omega) (by simp; omega) (by omega) ⟨by rw [hk0, hlen]; omega, rfl⟩
        have hcell : cellWR l k = markR k := by simp only [cellWR, hek]
        rw [hk0, hk1] at hc
        rw [hcell] at hput
        refine on_keep hP1 (sm0_ok pr w0) hh hc ⟨k + 1, hlt⟩ (by simp [t36]) ?_ (by simp only; omega) (hF _ _ (by simp [t36]) rfl)
        intro p hp
        simp only [o36, List.mem_cons, List.not_mem_nil, or_false] at hp
        rcases hp with rfl | rfl | rfl
        · simp
        · simp
        · rw [← hput]
          exact List.mem_cons_of_mem _ (List.mem_cons_of_mem _ (List.mem_cons_self ..))
    · have hk' : k = l.length + 64 := by omega
      subst hk'
      have hc := cut_came (e36c_came l.length (l.length + 64) (l.length + 64) (rqsD l) (fill (cellWR l) (fun _ => zeroR.map Deep.val) (l.length + 64) (l.length + 64)) (by simp)) (ts' := [(0, .chan (some 1)), (3, .slice (some ⟨2, 0, none⟩) (l.length + 64) (2 * (l.length + 64)))]) (by simp)
      exact out_came hP1 (sm0_ok pr w0) hh hc (by simp) (by simp) (hF _ _ (by simp) rfl) ⟨rfl, rfl, rfl⟩
  · intro j o' hj
    match j, hj with
    | 0, hj => exact hj
    | j + 1, hj => simp [K36] at hj
theorem Rq.small {r : Rq} (h : r.parts < 1099511627776) : r.h.small := by
  cases r
  rw [Rq.parts] at h
  exact ⟨by simp only [Rq.h]; omega, by simp only [Rq.h]; omega, by simp only [Rq.h]; omega⟩
theorem Rq.ops_parts (r : Rq) : rqsParts r.ops < r.parts := by
  cases r
  rw [Rq.parts]
  simp only [Rq.ops]
  omega
theorem con36r : ∀ (m : Nat) (l : List Rq), rqsParts l ≤ m → rqsParts l < 1099511627776 → ConWG Tab Tryz.prog 36 (Kr l)
  | m, l, hm, hb => by
    refine con36 (by have := rqsParts_len l; omega) fun r hr => ?_
    have h1 := parts_mem hr
    have h2 := r.ops_parts
    refine ⟨Rq.small (by omega), ?_⟩
    match m, hm with
    | 0, hm => omega
    | m + 1, hm => exact con36r m r.ops (by omega) (by omega)
end Go.Abs
end
section
namespace Go.Abs
open Go.Proofs
set_option maxRecDepth 100000
structure Th where
  z0 : Int
  z1 : Int
  f0 : Int
  f1 : Int
  f2 : Int
def txV (t : Th) (r : List Value) : List Value := .int .u32 t.z0 :: .int .u32 t.z1 :: .int .i8 t.f0 :: .int .u32 t.f1 :: .int .i64 t.f2 :: r
def txD (t : Th) (r : List Deep) : List Deep := .val (.int .u32 t.z0) :: .val (.int .u32 t.z1) :: .val (.int .i8 t.f0) :: .val (.int .u32 t.f1) :: .val (.int .i64 t.f2) :: r
def pk21t (u : Hd) (ds : List Deep) (n : Nat) (rw : List Deep) : SumO := fun args μ => match args with
  | [.agg ⟨[_, _, d, a, _, _, _, _, _, w, o]⟩] => viewW [d, a, w, o] (K21 u ds n rw) args μ
  | _ => none
def s13 (u : Hd) (ds : List Deep) (n : Nat) (rw : List Deep) : Sm := withS sm0 21 (pk21t u ds n rw)
theorem c13_came (t : Th) (u : Hd) (ds : List Deep) (n : Nat) (rw : List Deep)  :
    RanC (runO Tryz.prog E1 (s13 u ds n rw) noRun 100 13 [Value.agg (Array.mk (txV t (rqVals u (Value.chan (some 1)) (Value.chan (some 3)) (Value.chan (some 5)) (Value.chan (some 7)))))] (mkHp 8 (wordsOs (wsRq u ds n) 0 fun n => n)) [] True) (.returned (Value.agg (Array.mk [Value.int .u32 t.z0, Value.int .u32 t.z1, Value.int .i8 t.f0, Value.int .u32 t.f1, Value.int .i64 t.f2, Value.int .i8 u.k, Value.string u.pa, Value.slice (some ⟨22, 0, none⟩) (List.length u.bs) (2 * (List.length u.bs + 64)), Value.slice (some ⟨25, 0, none⟩) (List.length u.es) (2 * (List.length u.es + 64)), Value.int .i32 u.ver, Value.bool u.eph, Value.bool u.sq, Value.int .i64 u.ses, Value.int .i32 u.tmo, Value.slice (some ⟨28, 0, none⟩) (List.length u.who) (2 * (List.length u.who + 64)), Value.slice (some ⟨31, 0, none⟩) n (2 * (n + 64))]))) [(0, AObj.rov (bv u.bs)), (1, AObj.word (List.length u.bs) 0), (2, AObj.rov (av u.es)), (3, AObj.word (List.length u.es) 2), (4, AObj.rov (iv u.who)), (5, AObj.word (List.length u.who) 4), (6, AObj.ro ds), (7, AObj.word n 6), (8, AObj.cells [Value.int .u32 t.z0, Value.int .u32 t.z1, Value.int .i8 t.f0, Value.int .u32 t.f1, Value.int .i64 t.f2, Value.int .i8 u.k, Value.string u.pa, Value.slice (some ⟨22, 0, none⟩) (List.length u.bs) (2 * (List.length u.bs + 64)), Value.slice (some ⟨25, 0, none⟩) (List.length u.es) (2 * (List.length u.es + 64)), Value.int .i32 u.ver, Value.bool u.eph, Value.bool u.sq, Value.int .i64 u.ses, Value.int .i32 u.tmo, Value.slice (some ⟨28, 0, none⟩) (List.length u.who) (2 * (List.length u.who + 64)), Value.slice (some ⟨31, 0, none⟩) n (2 * (n + 64))] 0), (9, AObj.cells [Value.int .u32 t.z0, Value.int .u32 t.z1, Value.int .i8 t.f0, Value.int .u32 t.f1, Value.int .i64 t.f2, Value.int .i8 u.k, Value.string u.pa, Value.slice (some ⟨22, 0, none⟩) (List.length u.bs) (2 * (List.length u.bs + 64)), Value.slice (some ⟨25, 0, none⟩) (List.length u.es) (2 * (List.length u.es + 64)), Value.int .i32 u.ver, Value.bool u.eph, Value.bool u.sq, Value.int .i64 u.ses, Value.int .i32 u.tmo, Value.slice (some ⟨28, 0, none⟩) (List.length u.who) (2 * (List.length u.who + 64)), Value.slice (some ⟨31, 0, none⟩) n (2 * (n + 64))] 0), (10, AObj.rov (bv u.bs)), (11, AObj.word (List.length u.bs) 10), (12, AObj.rov (av u.es)), (13, AObj.word (List.length u.es) 12), (14, AObj.rov (iv u.who)), (15, AObj.word (List.length u.who) 14), (16, AObj.ro ds), (17, AObj.word n 16), (18, AObj.cells [Value.int .i8 u.k, Value.string u.pa, Value.slice (some ⟨22, 0, none⟩) (List.length u.bs) (2 * (List.length u.bs + 64)), Value.slice (some ⟨25, 0, none⟩) (List.length u.es) (2 * (List.length u.es + 64)), Value.int .i32 u.ver, Value.bool u.eph, Value.bool u.sq, Value.int .i64 u.ses, Value.int .i32 u.tmo, Value.slice (some ⟨28, 0, none⟩) (List.length u.who) (2 * (List.length u.who + 64)), Value.slice (some ⟨31, 0, none⟩) n (2 * (n + 64))] 0), (19, AObj.cells [Value.int .i8 u.k, Value.string u.pa, Value.slice (some ⟨22, 0, none⟩) (List.length u.bs) (2 * (List.length u.bs + 64)), Value.slice (some ⟨25, 0, none⟩) (List.length u.es) (2 * (List.length u.es + 64)), Value.int .i32 u.ver, Value.bool u.eph, Value.bool u.sq, Value.int .i64 u.ses, Value.int .i32 u.tmo, Value.slice (some ⟨28, 0, none⟩) (List.length u.who) (2 * (List.length u.who + 64)), Value.slice (some ⟨31, 0, none⟩) n (2 * (n + 64))] 0), (20, AObj.rov (bv u.bs)), (21, AObj.word (List.length u.bs) 20), (22, AObj.cells (row26 u.bs (List.length u.bs + 64)) 0), (23, AObj.rov (av u.es)), (24, AObj.word (List.length u.es) 23), (25, AObj.cells (row27 u.es (List.length u.es + 64)) 0), (26, AObj.rov (iv u.who)), (27, AObj.word (List.length u.who) 26), (28, AObj.cells (rowI u.who (List.length u.who + 64)) 0), (29, AObj.ro ds), (30, AObj.word n 29), (31, AObj.mix rw 0)] 32 :=
  cameCF_of (O := (True ∧ [Value.agg (Array.mk [Value.int .i8 u.k, Value.string u.pa, Value.chan (some 1), Value.chan (some 3), Value.int .i32 u.ver, Value.bool u.eph, Value.bool u.sq, Value.int .i64 u.ses, Value.int .i32 u.tmo, Value.chan (some 5), Value.chan (some 7)])] = [Value.agg (Array.mk [Value.int .i8 u.k, Value.string u.pa, Value.chan (some 1), Value.chan (some 3), Value.int .i32 u.ver, Value.bool u.eph, Value.bool u.sq, Value.int .i64 u.ses, Value.int .i32 u.tmo, Value.chan (some 5), Value.chan (some 7)])] ∧ (Wd.len (Wd.v (bv u.bs) (List.length u.bs)) = Wd.len (Wd.v (bv u.bs) (List.length u.bs)) ∧ bv u.bs = bv u.bs) ∧ (Wd.len (Wd.v (av u.es) (List.length u.es)) = Wd.len (Wd.v (av u.es) (List.length u.es)) ∧ av u.es = av u.es) ∧ (Wd.len (Wd.v (iv u.who) (List.length u.who)) = Wd.len (Wd.v (iv u.who) (List.length u.who)) ∧ iv u.who = iv u.who) ∧ (Wd.len (Wd.d ds n) = Wd.len (Wd.d ds n) ∧ ds = ds) ∧ True)) (by kernel_rfl) ⟨trivial, ⟨rfl, ⟨⟨rfl, rfl⟩, ⟨⟨rfl, rfl⟩, ⟨⟨rfl, rfl⟩, ⟨⟨rfl, rfl⟩, trivial⟩⟩⟩⟩⟩⟩
def K13 (t : Th) (u : Hd) (ds : List Deep) (n : Nat) (rw : List Deep) : ConW := ⟨fun X => [.agg ⟨txV t (rqVals u (X 0) (X 1) (X 2) (X 3))⟩], wsRq u ds n, fun σ => .agg ⟨txV t (vW u n (σ 22) (σ 25) (σ 28) (σ 31))⟩,
  fun σ => [.cells (txV t (vW u n (σ 22) (σ 25) (σ 28) (σ 31))) 0, .cells (txV t (vW u n (σ 22) (σ 25) (σ 28) (σ 31))) 0, .rov (bv u.bs), .word u.bs.length (σ 10), .rov (av u.es), .word u.es.length (σ 12), .rov (iv u.who), .word u.who.length (σ 14), .ro ds, .word n (σ 16),
    .cells (vW u n (σ 22) (σ 25) (σ 28) (σ 31)) 0, .cells (vW u n (σ 22) (σ 25) (σ 28) (σ 31)) 0, .rov (bv u.bs), .word u.bs.length (σ 20), .cells (row26 u.bs (u.bs.length + 64)) 0, .rov (av u.es), .word u.es.length (σ 23), .cells (row27 u.es (u.es.length + 64)) 0, .rov (iv u.who), .word u.who.length (σ 26), .cells (rowI u.who (u.who.length + 64)) 0, .ro ds, .word n (σ 29), .mix rw 0]⟩
def zeroT : List Value := txV ⟨0, 0, 0, 0, 0⟩ zeroR
def pk13 (t : Th) (u : Hd) (ds : List Deep) (n : Nat) (rw : List Deep) : SumO := fun args μ => match args with
  | [.agg ⟨[_, _, _, _, _, _, _, d, a, _, _, _, _, _, w, o]⟩] => viewW [d, a, w, o] (K13 t u ds n rw) args μ
  | _ => none
def s5 (t : Th) (u : Hd) (ds : List Deep) (n : Nat) (rw : List Deep) : Sm := withS sm0 13 (pk13 t u ds n rw)
theorem e5a_came (n : Nat) (m : Nat) (k : Nat) (ds : List Deep) (r : List Deep) (t : Th) (u : Hd) (d1 : List Deep) (n1 : Nat) (rw : List Deep) (h0 : decide ((↑k : Int) < (↑m : Int)) = true) (h1 : decide ((↑k : Int) < (↑n : Int)) = true) (h2 : 0 ≤ (↑k : Int) ∧ (↑k : Int) < (↑n : Int)) (h3 : List.take 16 (List.drop (0 + Int.toNat (↑k : Int) * 16) ds) = txD t (rqD u d1 n1)) (h4 : List.all (row26 u.bs (List.length u.bs + 64)) atom = true) (h5 : List.all (row27 u.es (List.length u.es + 64)) atom = true) (h6 : List.all (rowI u.who (List.length u.who + 64)) atom = true) (h7 : 0 ≤ (↑k : Int) ∧ (↑k : Int) < (↑m : Int)) (h8 : 0 + Int.toNat (↑k : Int) * 16 + 16 ≤ List.length r ∧ true = true) :
    Ran (codeO Tryz.prog E1 (s5 t u d1 n1 rw) noRun 100 5 [0, 0, 1, 0, 1, 1] (codeAt Tryz.f5 [0, 0, 1, 0, 1, 1]) (mkFr 38 (t36 m k)) (mkHp 3 (o36 n ds r)) [.skip 4, .b true, .skip 4, .b true, .skip 4, .sym, .dp (txD t (rqD u d1 n1)), .skip 1, .frz 33, .frz 36, .frz 39, .frz 42, .sym, .sym] True) (Exit.normal) 38 [(0, Value.chan (some 1)), (3, Value.slice (some ⟨2, 0, none⟩) m (2 * m)), (4, Value.int .i64 (IntKind.wrap .i64 ((↑k : Int) + 1)))] [(0, AObj.ro ds), (1, AObj.word n 0), (2, AObj.mix (putAt r (0 + Int.toNat (↑k : Int) * 16) [Deep.val (Value.int .u32 t.z0), Deep.val (Value.int .u32 t.z1), Deep.val (Value.int .i8 t.f0), Deep.val (Value.int .u32 t.f1), Deep.val (Value.int .i64 t.f2), Deep.val (Value.int .i8 u.k), Deep.val (Value.string u.pa), Deep.rowc (List.drop 0 (List.map Deep.val (row26 u.bs (List.length u.bs + 64)))) (List.length u.bs) (2 * (List.length u.bs + 64)), Deep.rowc (List.drop 0 (List.map Deep.val (row27 u.es (List.length u.es + 64)))) (List.length u.es) (2 * (List.length u.es + 64)), Deep.val (Value.int .i32 u.ver), Deep.val (Value.bool u.eph), Deep.val (Value.bool u.sq), Deep.val (Value.int .i64 u.ses), Deep.val (Value.int .i32 u.tmo), Deep.rowc (List.drop 0 (List.map Deep.val (rowI u.who (List.length u.who + 64)))) (List.length u.who) (2 * (List.length u.who + 64)), Deep.rowc (List.drop 0 rw) n1 (2 * (n1 + 64))]) 0), (3, AObj.rov (bv u.bs)), (4, AObj.word (List.length u.bs) 3), (5, AObj.rov (av u.es)), (6, AObj.word (List.length u.es) 5), (7, AObj.rov (iv u.who)), (8, AObj.word (List.length u.who) 7), (9, AObj.ro d1), (10, AObj.word n1 9), (11, AObj.rov (bv u.bs)), (12, AObj.word (List.length u.bs) 11), (13, AObj.rov (av u.es)), (14, AObj.word (List.length u.es) 13), (15, AObj.rov (iv u.who)), (16, AObj.word (List.length u.who) 15), (17, AObj.ro d1), (18, AObj.word n1 17), (19, AObj.cells [Value.int .u32 t.z0, Value.int .u32 t.z1, Value.int .i8 t.f0, Value.int .u32 t.f1, Value.int .i64 t.f2, Value.int .i8 u.k, Value.string u.pa, Value.slice (some ⟨33, 0, none⟩) (List.length u.bs) (2 * (List.length u.bs + 64)), Value.slice (some ⟨36, 0, none⟩) (List.length u.es) (2 * (List.length u.es + 64)), Value.int .i32 u.ver, Value.bool u.eph, Value.bool u.sq, Value.int .i64 u.ses, Value.int .i32 u.tmo, Value.slice (some ⟨39, 0, none⟩) (List.length u.who) (2 * (List.length u.who + 64)), Value.slice (some ⟨42, 0, none⟩) n1 (2 * (n1 + 64))] 0), (20, AObj.cells [Value.int .u32 t.z0, Value.int .u32 t.z1, Value.int .i8 t.f0, Value.int .u32 t.f1, Value.int .i64 t.f2, Value.int .i8 u.k, Value.string u.pa, Value.slice (some ⟨33, 0, none⟩) (List.length u.bs) (2 * (List.length u.bs + 64)), Value.slice (some ⟨36, 0, none⟩) (List.length u.es) (2 * (List.length u.es + 64)), Value.int .i32 u.ver, Value.bool u.eph, Value.bool u.sq, Value.int .i64 u.ses, Value.int .i32 u.tmo, Value.slice (some ⟨39, 0, none⟩) (List.length u.who) (2 * (List.length u.who + 64)), Value.slice (some ⟨42, 0, none⟩) n1 (2 * (n1 + 64))] 0), (21, AObj.rov (bv u.bs)), (22, AObj.word (List.length u.bs) 21), (23, AObj.rov (av u.es)), (24, AObj.word (List.length u.es) 23), (25, AObj.rov (iv u.who)), (26, AObj.word (List.length u.who) 25), (27, AObj.ro d1), (28, AObj.word n1 27), (29, AObj.cells [Value.int .i8 u.k, Value.string u.pa, Value.slice (some ⟨33, 0, none⟩) (List.length u.bs) (2 * (List.length u.bs + 64)), Value.slice (some ⟨36, 0, none⟩) (List.length u.es) (2 * (List.length u.es + 64)), Value.int .i32 u.ver, Value.bool u.eph, Value.bool u.sq, Value.int .i64 u.ses, Value.int .i32 u.tmo, Value.slice (some ⟨39, 0, none⟩) (List.length u.who) (2 * (List.length u.who + 64)), Value.slice (some ⟨42, 0, none⟩) n1 (2 * (n1 + 64))] 0), (30, AObj.cells [Value.int .i8 u.k, Value.string u.pa, Value.slice (some ⟨33, 0, none⟩) (List.length u.bs) (2 * (List.length u.bs + 64)), Value.slice (some ⟨36, 0, none⟩) (List.length u.es) (2 * (List.length u.es + 64)), Value.int .i32 u.ver, Value.bool u.eph, Value.bool u.sq, Value.int .i64 u.ses, Value.int .i32 u.tmo, Value.slice (some ⟨39, 0, none⟩) (List.length u.who) (2 * (List.length u.who + 64)), Value.slice (some ⟨42, 0, none⟩) n1 (2 * (n1 + 64))] 0), (31, AObj.rov (bv u.bs)), (32, AObj.word (List.length u.bs) 31), (33, AObj.rov (row26 u.bs (List.length u.bs + 64))), (34, AObj.rov (av u.es)), (35, AObj.word (List.length u.es) 34), (36, AObj.rov (row27 u.es (List.length u.es + 64))), (37, AObj.rov (iv u.who)), (38, AObj.word (List.length u.who) 37), (39, AObj.rov (rowI u.who (List.length u.who + 64))), (40, AObj.ro d1), (41, AObj.word n1 40), (42, AObj.ro rw)] 43 :=
  cameF_of (O := ((((((((((True ∧ decide ((↑k : Int) < (↑m : Int)) = true) ∧ decide ((↑k : Int) < (↑n : Int)) = true) ∧ 0 ≤ (↑k : Int) ∧ (↑k : Int) < (↑n : Int)) ∧ List.take 16 (List.drop (0 + Int.toNat (↑k : Int) * 16) ds) = txD t (rqD u d1 n1)) ∧ [Value.agg (Array.mk [Value.int .u32 t.z0, Value.int .u32 t.z1, Value.int .i8 t.f0, Value.int .u32 t.f1, Value.int .i64 t.f2, Value.int .i8 u.k, Value.string u.pa, Value.chan (some 4), Value.chan (some 6), Value.int .i32 u.ver, Value.bool u.eph, Value.bool u.sq, Value.int .i64 u.ses, Value.int .i32 u.tmo, Value.chan (some 8), Value.chan (some 10)])] = [Value.agg (Array.mk [Value.int .u32 t.z0, Value.int .u32 t.z1, Value.int .i8 t.f0, Value.int .u32 t.f1, Value.int .i64 t.f2, Value.int .i8 u.k, Value.string u.pa, Value.chan (some 4), Value.chan (some 6), Value.int .i32 u.ver, Value.bool u.eph, Value.bool u.sq, Value.int .i64 u.ses, Value.int .i32 u.tmo, Value.chan (some 8), Value.chan (some 10)])] ∧ (Wd.len (Wd.v (bv u.bs) (List.length u.bs)) = Wd.len (Wd.v (bv u.bs) (List.length u.bs)) ∧ bv u.bs = bv u.bs) ∧ (Wd.len (Wd.v (av u.es) (List.length u.es)) = Wd.len (Wd.v (av u.es) (List.length u.es)) ∧ av u.es = av u.es) ∧ (Wd.len (Wd.v (iv u.who) (List.length u.who)) = Wd.len (Wd.v (iv u.who) (List.length u.who)) ∧ iv u.who = iv u.who) ∧ (Wd.len (Wd.d d1 n1) = Wd.len (Wd.d d1 n1) ∧ d1 = d1) ∧ True) ∧ List.all (row26 u.bs (List.length u.bs + 64)) atom = true) ∧ List.all (row27 u.es (List.length u.es + 64)) atom = true) ∧ List.all (rowI u.who (List.length u.who + 64)) atom = true) ∧ 0 ≤ (↑k : Int) ∧ (↑k : Int) < (↑m : Int)) ∧ 0 + Int.toNat (↑k : Int) * 16 + 16 ≤ List.length r ∧ true = true)) (by kernel_rfl) ⟨⟨⟨⟨⟨⟨⟨⟨⟨⟨trivial, h0⟩, h1⟩, h2⟩, h3⟩, ⟨rfl, ⟨⟨rfl, rfl⟩, ⟨⟨rfl, rfl⟩, ⟨⟨rfl, rfl⟩, ⟨⟨rfl, rfl⟩, trivial⟩⟩⟩⟩⟩⟩, h4⟩, h5⟩, h6⟩, h7⟩, h8⟩
theorem e5b_came (n : Nat) (m : Nat) (k : Nat) (ds : List Deep) (r : List Deep) (h0 : decide ((↑k : Int) < (↑m : Int)) = true) (h1 : decide ((↑k : Int) < (↑n : Int)) = false) (h2 : 0 ≤ (↑k : Int) ∧ (↑k : Int) < (↑m : Int)) (h3 : 0 + Int.toNat (↑k : Int) * 16 + 16 ≤ List.length r ∧ true = true) :
    Ran (codeO Tryz.prog E1 (sm0) noRun 100 5 [0, 0, 1, 0, 1, 1] (codeAt Tryz.f5 [0, 0, 1, 0, 1, 1]) (mkFr 38 (t36 m k)) (mkHp 3 (o36 n ds r)) [.skip 4, .b true, .skip 4, .b false, .skip 6, .sym, .sym] True) (Exit.normal) 38 [(0, Value.chan (some 1)), (3, Value.slice (some ⟨2, 0, none⟩) m (2 * m)), (4, Value.int .i64 (IntKind.wrap .i64 ((↑k : Int) + 1)))] [(0, AObj.ro ds), (1, AObj.word n 0), (2, AObj.mix (putAt r (0 + Int.toNat (↑k : Int) * 16) [Deep.val (Value.int .u32 0), Deep.val (Value.int .u32 0), Deep.val (Value.int .i8 0), Deep.val (Value.int .u32 0), Deep.val (Value.int .i64 (IntKind.wrap .i64 (-3000000 - (↑k : Int)))), Deep.val (Value.int .i8 0), Deep.val (Value.string (ByteArray.mk #[])), Deep.val (Value.slice none 0 0), Deep.val (Value.slice none 0 0), Deep.val (Value.int .i32 0), Deep.val (Value.bool false), Deep.val (Value.bool false), Deep.val (Value.int .i64 0), Deep.val (Value.int .i32 0), Deep.val (Value.slice none 0 0), Deep.val (Value.slice none 0 0)]) 0)] 3 :=
  cameF_of (O := ((((True ∧ decide ((↑k : Int) < (↑m : Int)) = true) ∧ decide ((↑k : Int) < (↑n : Int)) = false) ∧ 0 ≤ (↑k : Int) ∧ (↑k : Int) < (↑m : Int)) ∧ 0 + Int.toNat (↑k : Int) * 16 + 16 ≤ List.length r ∧ true = true)) (by kernel_rfl) ⟨⟨⟨⟨trivial, h0⟩, h1⟩, h2⟩, h3⟩
theorem e5c_came (n : Nat) (m : Nat) (k : Nat) (ds : List Deep) (r : List Deep) (h0 : decide ((↑k : Int) < (↑m : Int)) = false) :
    Ran (codeO Tryz.prog E1 (sm0) noRun 100 5 [0, 0, 1, 0, 1, 1] (codeAt Tryz.f5 [0, 0, 1, 0, 1, 1]) (mkFr 38 (t36 m k)) (mkHp 3 (o36 n ds r)) [.skip 4, .b false] True) (Exit.exit 0) 38 [(0, Value.chan (some 1)), (3, Value.slice (some ⟨2, 0, none⟩) m (2 * m)), (4, Value.int .i64 (↑k : Int))] [(0, AObj.ro ds), (1, AObj.word n 0), (2, AObj.mix r 0)] 3 :=
  cameF_of (O := (True ∧ decide ((↑k : Int) < (↑m : Int)) = false)) (by kernel_rfl) ⟨trivial, h0⟩
noncomputable def q5 (n m : Nat) (ds r : List Deep) : Sm := withL sm0 5 [1, 0, 1, 1] (piece 38 (t36 m 0) (o36 n ds ((copies zeroT m).map .val)) 3 .normal (mkFr 38 [(0, .chan (some 1)), (3, .slice (some ⟨2, 0, none⟩) m (2 * m))]) (mkHp 3 (o36 n ds r)))
theorem c5_came (n : Nat) (m : Nat) (ds : List Deep) (r : List Deep) (h0 : IntKind.wrap .i64 ((↑n : Int) + 64) = (↑m : Int) ∧ IntKind.wrap .i64 ((↑n : Int) + 64) = (↑m : Int) ∧ 168 * m ≤ 281474976710656 ∧ m ≤ 9223372036854775807) (h1 : List.all (copies (Value.cells (Value.agg #[Value.int .u32 0, Value.int .u32 0, Value.int .i8 0, Value.int .u32 0, Value.int .i64 0, Value.int .i8 0, Value.string (ByteArray.mk #[]), Value.slice none 0 0, Value.slice none 0 0, Value.int .i32 0, Value.bool false, Value.bool false, Value.int .i64 0, Value.int .i32 0, Value.slice none 0 0, Value.slice none 0 0])).toList m) atom = true) (h2 : 0 ≤ (↑n : Int)) (h3 : (↑n : Int) ≤ (↑(capOf (2 * m)) : Int)) (h4 : 0 ≤ capOf (2 * m)) (h5 : 0 ≠ capOf (2 * m)) :
    RanC (runO Tryz.prog E1 (q5 n m ds r) noRun 100 5 [Value.chan (some 1)] (mkHp 2 (wordsOs [Wd.d ds n] 0 fun n => n)) [.skip 4, .mk m, .skip 1, .asMix 2, .skip 4, .sym] True) (.returned (Value.slice (some ⟨2, 0, none⟩) n (2 * m - 0))) [(0, AObj.ro ds), (1, AObj.word n 0), (2, AObj.mix r 0)] 3 :=
  cameCF_of (O := ((((True ∧ IntKind.wrap .i64 ((↑n : Int) + 64) = (↑m : Int) ∧ IntKind.wrap .i64 ((↑n : Int) + 64) = (↑m : Int) ∧ 168 * m ≤ 281474976710656 ∧ m ≤ 9223372036854775807) ∧ List.all (copies (Value.cells (Value.agg #[Value.int .u32 0, Value.int .u32 0, Value.int .i8 0, Value.int .u32 0, Value.int .i64 0, Value.int .i8 0, Value.string (ByteArray.mk #[]), Value.slice none 0 0, Value.slice none 0 0, Value.int .i32 0, Value.bool false, Value.bool false, Value.int .i64 0, Value.int .i32 0, Value.slice none 0 0, Value.slice none 0 0])).toList m) atom = true) ∧ SelfP 38 (t36 m 0) (o36 n ds (List.map Deep.val (copies zeroT m))) 3) ∧ ((0 ≤ (↑n : Int) ∧ (↑n : Int) ≤ (↑(capOf (2 * m)) : Int)) ∧ True ∧ 0 ≤ capOf (2 * m)) ∧ 0 ≠ capOf (2 * m))) (by kernel_rfl) ⟨⟨⟨⟨trivial, h0⟩, h1⟩, selfP_true _ _ _ _⟩, ⟨⟨⟨h2, h3⟩, ⟨trivial, h4⟩⟩, h5⟩⟩
theorem pk21t_ok {pr : Prot} {w0 : World} (hG : Tab pr w0) {u : Hd} {ds : List Deep} {n : Nat} {rw : List Deep} (hu : u.small) (hc : ConWG Tab Tryz.prog 36 (K36 ds n rw)) : SumOk Tryz.prog pr w0 0 21 (pk21t u ds n rw) := by
  intro args μ e μ' p hg
  unfold pk21t at hg
  split at hg
  · exact viewW_ok tab_stands hG (con21 hu hc) _ _ μ e μ' p hg
  · cases hg
theorem con13 {t : Th} {u : Hd} {ds : List Deep} {n : Nat} {rw : List Deep} (hu : u.small) (hc : ConWG Tab Tryz.prog 36 (K36 ds n rw)) : ConWG Tab Tryz.prog 13 (K13 t u ds n rw) := by
  refine conW_run hP1 (s := s13 u ds n rw) (fun pr w0 hG => withS_ok (sm0_ok pr w0) (pk21t_ok hG hu hc)) (c13_came t u ds n rw) (by simp [K13, wsRq, limit]) ⟨rfl, rfl, by simp, ?_, by decide, by simp [K13, wsRq]⟩ (by simp [K13, txV, rqVals, wsRq]) (by simp [K13, txV, vW, rqVals]) (fun ι ι' f g h => by simp [K13, txV, rqVals, h 0 (by simp [K13, wsRq]), h 1 (by simp [K13, wsRq]), h 2 (by simp [K13, wsRq]), h 3 (by simp [K13, wsRq])]) (by intro σ; simp [K13, txV, vW, rqVals, upV]) (by intro σ; simp [K13, txV, vW, rqVals, upO, upV, (row26_plain _ _).map, (row27_plain _ _).map, (rowI_plain _ _).map]) rfl ?_
  · intro p hp
    simp only [List.mem_cons, List.not_mem_nil, or_false] at hp
    rcases hp with rfl | rfl | rfl | rfl | rfl | rfl | rfl | rfl | rfl | rfl | rfl | rfl | rfl | rfl | rfl | rfl | rfl | rfl | rfl | rfl | rfl | rfl | rfl | rfl | rfl | rfl | rfl | rfl | rfl | rfl | rfl | rfl <;>
      first
      | exact ⟨by simp, trivial⟩
      | exact ⟨by simp, fun v hv => (row26_plain _ _ v hv).1 _⟩
      | exact ⟨by simp, fun v hv => (row27_plain _ _ v hv).1 _⟩
      | exact ⟨by simp, fun v hv => (rowI_plain _ _ v hv).1 _⟩
      | exact ⟨by simp, by simp [BdO]⟩
  · intro j o' hj
    have : j < 24 := by
      have := (List.getElem?_eq_some_iff.1 hj).1
      simpa [K13] using this
    match j, hj, this with
    | 0, hj, _ => exact hj
    | 1, hj, _ => exact hj
    | 2, hj, _ => exact hj
    | 3, hj, _ => exact hj
    | 4, hj, _ => exact hj
    | 5, hj, _ => exact hj
    | 6, hj, _ => exact hj
    | 7, hj, _ => exact hj
    | 8, hj, _ => exact hj
    | 9, hj, _ => exact hj
    | 10, hj, _ => exact hj
    | 11, hj, _ => exact hj
    | 12, hj, _ => exact hj
    | 13, hj, _ => exact hj
    | 14, hj, _ => exact hj
    | 15, hj, _ => exact hj
    | 16, hj, _ => exact hj
    | 17, hj, _ => exact hj
    | 18, hj, _ => exact hj
    | 19, hj, _ => exact hj
    | 20, hj, _ => exact hj
    | 21, hj, _ => exact hj
    | 22, hj, _ => exact hj
    | 23, hj, _ => exact hj
    | j + 24, hj, h => exact absurd h (by omega)
theorem pk13_ok {pr : Prot} {w0 : World} (hG : Tab pr w0) {t : Th} {u : Hd} {ds : List Deep} {n : Nat} {rw : List Deep} (hu : u.small) (hc : ConWG Tab Tryz.prog 36 (K36 ds n rw)) : SumOk Tryz.prog pr w0 0 13 (pk13 t u ds n rw) := by
  intro args μ e μ' p hg
  unfold pk13 at hg
  split at hg
  · exact viewW_ok tab_stands hG (con13 hu hc) _ _ μ e μ' p hg
  · cases hg
def Tx.th (t : Tx) : Th := ⟨t.z0, t.z1, t.f0, t.f1, t.f2⟩
theorem Tx.d_eq (t : Tx) : t.d = txD t.th t.r.d := rfl
def Tx.w (t : Tx) : List Deep := txD t.th t.r.w
theorem Tx.w_len (t : Tx) : t.w.length = 16 := by simp [Tx.w, txD, Rq.w_len]
def markT' (j : Nat) : List Deep := txD ⟨0, 0, 0, 0, IntKind.i64.wrap (-3000000 - (j : Int))⟩ (zeroR.map .val)
def cellWT (l : List Tx) (j : Nat) : List Deep := match l[j]? with
  | some t => t.w
  | none => markT' j
def rowT (l : List Tx) (m : Nat) : List Deep := rows (cellWT l) m
theorem cellWT_len (l : List Tx) (j : Nat) : (cellWT l j).length = 16 := by
  unfold cellWT
  split
  · exact Tx.w_len _
  · rfl
def K5 (l : List Tx) : ConW := K36 (txsD l) l.length (rowT l (l.length + 64))
theorem con5 {l : List Tx} (hl : l.length < 1099511627776) (hs : ∀ t ∈ l, t.r.parts < 1099511627776) : ConWG Tab Tryz.prog 5 (K5 l) := by
  have hw : IntKind.i64.wrap ((l.length : Int) + 64) = ((l.length + 64 : Nat) : Int) := by
    rw [i64_small (by omega) (by omega)]; omega
  have hz : ∀ j, j < l.length + 64 → ((fun _ => zeroT.map Deep.val) j : List Deep).length = 16 := fun _ _ => rfl
  have hbo : ∀ k, ∀ p ∈ o36 l.length (txsD l) (fill (cellWT l) (fun _ => zeroT.map Deep.val) (l.length + 64) k), p.1 < 3 ∧ BdO 3 p.2 := by
    intro k p hp
    simp only [o36, List.mem_cons, List.not_mem_nil, or_false] at hp
    rcases hp with rfl | rfl | rfl
    · exact ⟨by simp, trivial⟩
    · exact ⟨by simp, by simp [BdO]⟩
    · exact ⟨by simp, trivial⟩
  have hF : ∀ k ts, (∀ p ∈ ts, Bd 3 p.2) → smallN ts = true → Fits 3 ts (o36 l.length (txsD l) (fill (cellWT l) (fun _ => zeroT.map Deep.val) (l.length + 64) k)) 3 := fun k ts h1 h2 => ⟨h2, rfl, h1, hbo k, by decide, by decide⟩
  have hcop : (copies zeroT (l.length + 64)).map Deep.val = fill (cellWT l) (fun _ => zeroT.map Deep.val) (l.length + 64) 0 := by rw [copies_rows, fill_zero, rows_map]
  have hful : rowT l (l.length + 64) = fill (cellWT l) (fun _ => zeroT.map Deep.val) (l.length + 64) (l.length + 64) := by rw [fill_full]; rfl
  have hcap : capOf (2 * (l.length + 64)) = l.length + 64 := by simp [capOf]
  unfold K5
  refine conW_run hP1 (s := q5 l.length (l.length + 64) (txsD l) (rowT l (l.length + 64))) (fun pr w0 hG => withL_ok (sm0_ok pr w0) (fn := Tryz.f5) (c := .block 0 (.loop (codeAt Tryz.f5 [0, 0, 1, 0, 1, 1]))) (by kernel_rfl) (by kernel_rfl) (block_end (by rw [hcop]; exact hF 0 _ (by simp [t36]) rfl) ?_))
    (c5_came l.length (l.length + 64) (txsD l) (rowT l (l.length + 64)) ⟨hw, hw, by omega, by omega⟩ (copies_atoms (by simp [Value.cells, atom]) _) (by omega) (by rw [hcap]; omega) (by omega) (by rw [hcap]; omega)) (by simp [K36, limit]) ⟨rfl, rfl, by simp, by rw [hful]; exact fun p hp => hbo _ p hp, by decide, (by simp [K36])⟩ (by simp [K36]) (by simp [K36]) (by intro ι ι' f g h; simp [K36, h 0 (by simp [K36])]) (by intro σ; simp [K36, upV]) (by intro σ; simp [K36, upO]) rfl ?_
  · rw [hcop, hful]
    have hh : Here E1 5 [0, 0, 1, 0, 1, 1] (codeAt Tryz.f5 [0, 0, 1, 0, 1, 1]) := codeAt_here (fn := Tryz.f5) (by kernel_rfl) (by kernel_rfl)
    refine rounds_tri (T := { k : Nat // k ≤ l.length + 64 }) ⟨38, fun t => t36 (l.length + 64) t.1, fun t => o36 l.length (txsD l) (fill (cellWT l) (fun _ => zeroT.map Deep.val) (l.length + 64) t.1), fun _ => 3, fun t => l.length + 64 - t.1⟩ ?_ ⟨0, Nat.zero_le _⟩
    rintro ⟨k, hk⟩
    have hlen : (fill (cellWT l) (fun _ => zeroT.map Deep.val) (l.length + 64) k).length = (l.length + 64) * 16 := fill_length (s := 16) (fun _ _ => cellWT_len _ _) hz
    have hk0 : 0 + Int.toNat (k : Int) * 16 = k * 16 := by simp
    by_cases hlt : k < l.length + 64
    · have hput := fill_put (g := cellWT l) (z := fun _ => zeroT.map Deep.val) (s := 16) (m := l.length + 64) (k := k) (fun _ _ => cellWT_len _ _) hz hlt
      have hk1 := i64_succ (k := k) (by omega)
      by_cases hkn : k < l.length
      · have hek : l[k]? = some l[k] := List.getElem?_eq_getElem hkn
        have hpt := hs l[k] (List.getElem_mem hkn)
        have hop := l[k].r.ops_parts
        have hc := e5a_came l.length (l.length + 64) k (txsD l) (fill (cellWT l) (fun _ => zeroT.map Deep.val) (l.length + 64) k) l[k].th l[k].r.h (rqsD l[k].r.ops) l[k].r.ops.length (rowR l[k].r.ops (l[k].r.ops.length + 64)) (by simp; omega) (by simp; omega) (by omega) (by rw [txsD_get hkn, Tx.d_eq, Rq.d_eq]) (row26_atoms _ _) (row27_atoms _ _) (rowI_atoms _ _) (by omega) ⟨by rw [hk0, hlen]; omega, rfl⟩
        have hcell : cellWT l k = txD l[k].th (rqW l[k].r.h (rowR l[k].r.ops (l[k].r.ops.length + 64)) l[k].r.ops.length) := by simp only [cellWT, hek, Tx.w, Rq.w_eq]
        rw [hk0, hk1] at hc
        rw [hcell] at hput
        refine on_keep hP1 (withS_ok (sm0_ok pr w0) (pk13_ok hG (Rq.small hpt) (con36r _ l[k].r.ops (Nat.le_refl _) (by omega)))) hh hc ⟨k + 1, hlt⟩ (by simp [t36]) ?_ (by simp only; omega) (hF _ _ (by simp [t36]) rfl)
        intro p hp
        simp only [o36, List.mem_cons, List.not_mem_nil, or_false] at hp
        rcases hp with rfl | rfl | rfl
        · simp
        · simp
        · rw [← hput]
          exact List.mem_cons_of_mem _ (List.mem_cons_of_mem _ (List.mem_cons_self ..))
      · have hek : l[k]? = none := List.getElem?_eq_none (by omega)
        have hc := e5b_came l.length (l.length + 64) k (txsD l) (fill (cellWT l) (fun _ => zeroT.map Deep.val) (l.length + 64) k) (by simp; omega) (by simp; omega) (by omega) ⟨by rw [hk0, hlen]; omega, rfl⟩
        have hcell : cellWT l k = markT' k := by simp only [cellWT, hek]
        rw [hk0, hk1] at hc
        rw [hcell] at hput
        refine on_keep hP1 (sm0_ok pr w0) hh hc ⟨k + 1, hlt⟩ (by simp [t36]) ?_ (by simp only; omega) (hF _ _ (by simp [t36]) rfl)
        intro p hp
        simp only [o36, List.mem_cons, List.not_mem_nil, or_false] at hp
        rcases hp with rfl | rfl | rfl
        · simp
        · simp
        · rw [← hput]
          exact List.mem_cons_of_mem _ (List.mem_cons_of_mem _ (List.mem_cons_self ..))
    · have hk' : k = l.length + 64 := by omega
      subst hk'
      have hc := cut_came (e5c_came l.length (l.length + 64) (l.length + 64) (txsD l) (fill (cellWT l) (fun _ => zeroT.map Deep.val) (l.length + 64) (l.length + 64)) (by simp)) (ts' := [(0, .chan (some 1)), (3, .slice (some ⟨2, 0, none⟩) (l.length + 64) (2 * (l.length + 64)))]) (by simp)
      exact out_came hP1 (sm0_ok pr w0) hh hc (by simp) (by simp) (hF _ _ (by simp) rfl) ⟨rfl, rfl, rfl⟩
  · intro j o' hj
    match j, hj with
    | 0, hj => exact hj
    | j + 1, hj => simp [K36] at hj
end Go.Abs
end
section
namespace Go.Abs
open Go.Proofs
set_option maxRecDepth 100000
def DW (d e : Deep) : Prop := ∀ (pr : Nat → Prop) (w : World) (v : Value), DeepOk pr w d v → DeepOk pr w e v
def DWs (ds es : List Deep) : Prop := ∀ (i : Nat) (h : i < es.length), ∃ d, ds[i]? = some d ∧ DW d es[i]
theorem DW.refl (d : Deep) : DW d d := fun _ _ _ h => h
theorem DWs.refl (ds : List Deep) : DWs ds ds := fun i h => ⟨ds[i], List.getElem?_eq_getElem h, DW.refl _⟩
theorem DWs.nil (ds : List Deep) : DWs ds [] := fun i h => by simp at h
theorem DWs.cons {d e : Deep} {ds es : List Deep} (h : DW d e) (hs : DWs ds es) : DWs (d :: ds) (e :: es) := by
  intro i hi
  cases i with
  | zero => exact ⟨d, rfl, h⟩
  | succ i => obtain ⟨d', h1, h2⟩ := hs i (by simpa using hi); exact ⟨d', by simpa using h1, by simpa using h2⟩
theorem DWs.append {ds es ds' es' : List Deep} (hl : ds.length = es.length) (h : DWs ds es) (h' : DWs ds' es') : DWs (ds ++ ds') (es ++ es') := by
  intro i hi
  by_cases h1 : i < es.length
  · obtain ⟨d, g1, g2⟩ := h i h1
    exact ⟨d, by rw [List.getElem?_append_left (by omega)]; exact g1, by rw [List.getElem_append_left h1]; exact g2⟩
  · have hi' : i - es.length < es'.length := by rw [List.length_append] at hi; omega
    obtain ⟨d, g1, g2⟩ := h' _ hi'
    exact ⟨d, by rw [List.getElem?_append_right (by omega), hl]; exact g1, by rw [List.getElem_append_right (by omega)]; exact g2⟩
theorem DWs.more {ds es : List Deep} (h : DWs ds es) (x : List Deep) : DWs (ds ++ x) es := by
  intro i hi
  obtain ⟨d, g1, g2⟩ := h i hi
  obtain ⟨hl, _⟩ := List.getElem?_eq_some_iff.1 g1
  exact ⟨d, by rw [List.getElem?_append_left hl]; exact g1, g2⟩
theorem dw_sl {es ds : List Deep} (h : DWs es ds) (len c : Nat) : DW (.rowc es len c) (.sl ds len) := by
  intro pr w v hd
  rw [deepOk_rowc] at hd
  rw [deepOk_sl]
  obtain ⟨b, o, e, hv, hc⟩ := hd
  refine .inr ⟨b, o, _, hv, fun i hi => ?_⟩
  obtain ⟨d, g1, g2⟩ := h i hi
  obtain ⟨hl, ge⟩ := List.getElem?_eq_some_iff.1 g1
  obtain ⟨h1, h2, u, h3, h4⟩ := hc i hl
  exact ⟨h1, h2, u, h3, g2 pr w u (by rw [← ge]; exact h4)⟩
theorem dw_slv {us vs : List Value} (h : us.take vs.length = vs) (len c : Nat) : DW (.rowc (us.map .val) len c) (.slv vs len) := by
  intro pr w v hd
  rw [deepOk_rowc] at hd
  rw [deepOk_slv]
  obtain ⟨b, o, e, hv, hc⟩ := hd
  refine .inr ⟨b, o, _, hv, fun i u hu => ?_⟩
  have hu' : us[i]? = some u := by
    obtain ⟨hi, _⟩ := List.getElem?_eq_some_iff.1 hu
    rw [← h, List.getElem?_take, if_pos hi] at hu
    exact hu
  obtain ⟨hi, he⟩ := List.getElem?_eq_some_iff.1 hu'
  obtain ⟨h1, h2, u', h3, h4⟩ := hc i (by simpa using hi)
  rw [List.getElem_map, deepOk_val, he] at h4
  rw [h4.1] at h3
  exact ⟨h1, h2, h3, h4.2⟩
def Wd.le (a b : Wd) : Prop := a.len = b.len ∧ DWs a.cells b.cells
theorem Wd.le_refl (a : Wd) : a.le a := ⟨rfl, DWs.refl _⟩
theorem Wd.le_d {ds es : List Deep} {n : Nat} (h : DWs ds es) : (Wd.d ds n).le (.d es n) := ⟨rfl, h⟩
theorem cells_of_ro {x : Wd} {l : Nat × Nat} {fz : Nat → Prop} {wb : World} (h : RoOk fz wb l x.obj) : ∀ i (hi : i < x.cells.length), l.1 < wb.heap.size ∧ fz l.1 ∧ ∃ u, wb.cell? ⟨l.1, l.2 + i, none⟩ = some u ∧ DeepOk fz wb x.cells[i] u := by
  cases x with
  | v vs n =>
    intro i hi
    have hi' : i < vs.length := by simpa [Wd.cells] using hi
    obtain ⟨h1, h2, h3, h4⟩ := h i vs[i] (List.getElem?_eq_getElem hi')
    refine ⟨h1, h2, vs[i], h3, ?_⟩
    simp only [Wd.cells, List.getElem_map, deepOk_val]
    exact ⟨trivial, h4⟩
  | d es n => exact h
theorem Wd.le_ro {a b : Wd} (h : a.le b) {l : Nat × Nat} {fz : Nat → Prop} {wb : World} (ha : RoOk fz wb l a.obj) : RoOk fz wb l b.obj := by
  refine ro_of_cells fun i hi => ?_
  obtain ⟨d, g1, g2⟩ := h.2 i hi
  obtain ⟨hl, ge⟩ := List.getElem?_eq_some_iff.1 g1
  obtain ⟨h1, h2, u, h3, h4⟩ := cells_of_ro ha i hl
  exact ⟨h1, h2, u, h3, g2 _ _ _ (by rw [← ge]; exact h4)⟩
theorem wordsOs_look : ∀ {ws : List Wd} {b : Nat} {σ : Nat → Nat} {i : Nat} (h : i < ws.length), look (wordsOs ws b σ) (b + 2 * i) = some ws[i].obj ∧ look (wordsOs ws b σ) (b + (2 * i + 1)) = some (.word ws[i].len (σ (b + 2 * i)))
  | [], b, σ, i, h => by simp at h
  | k :: ks, b, σ, i, h => by
    cases i with
    | zero =>
      refine ⟨by simp [wordsOs, look], ?_⟩
      simp only [wordsOs, look, Nat.mul_zero, Nat.add_zero, Nat.zero_add]
      rw [if_neg (by omega), if_pos trivial]
      rfl
    | succ i =>
      obtain ⟨h1, h2⟩ := wordsOs_look (ws := ks) (b := b + 2) (σ := σ) (i := i) (by simpa using h)
      have e1 : b + 2 + 2 * i = b + 2 * (i + 1) := by omega
      have e2 : b + 2 + (2 * i + 1) = b + (2 * (i + 1) + 1) := by omega
      rw [e1] at h1
      rw [e1, e2] at h2
      simp only [wordsOs, look]
      rw [if_neg (by omega), if_neg (by omega), if_neg (by omega), if_neg (by omega)]
      exact ⟨h1, h2⟩
theorem Sim.weakW {pr : Prot} {w0 w : World} {ι : Ren} {ws ws' : List Wd} (hl : ws'.length = ws.length) (hlim : 2 * ws.length ≤ limit) (hw : ∀ i (h : i < ws.length), (ws'[i]'(hl ▸ h)).le ws[i]) (hS : Sim pr w0 0 ι (mkHp (2 * ws'.length) (wordsOs ws' 0 fun n => n)) w) :
    Sim pr w0 0 ι (mkHp (2 * ws.length) (wordsOs ws 0 fun n => n)) w := by
  have hgetL : ∀ n o, (mkHp (2 * ws.length) (wordsOs ws 0 fun n => n)).get n = some o → ∃ i, ∃ (h : i < ws.length), (n = 2 * i ∧ o = ws[i].obj) ∨ (n = 2 * i + 1 ∧ o = .word ws[i].len (2 * i)) := by
    intro n o hg
    simp only [Hp.get, mkHp, mkT_get _ n (wordsOs_small hlim)] at hg
    obtain ⟨i, hi, h | h⟩ := wordsOs_mem (look_mem _ n o hg)
    · simp only [Nat.zero_add, Prod.mk.injEq] at h; exact ⟨i, hi, .inl h⟩
    · simp only [Nat.zero_add, Prod.mk.injEq] at h; exact ⟨i, hi, .inr h⟩
  have hget' : ∀ i (h : i < ws.length), (mkHp (2 * ws'.length) (wordsOs ws' 0 fun n => n)).get (2 * i) = some (ws'[i]'(hl ▸ h)).obj ∧ (mkHp (2 * ws'.length) (wordsOs ws' 0 fun n => n)).get (2 * i + 1) = some (.word (ws'[i]'(hl ▸ h)).len (2 * i)) := by
    intro i h
    obtain ⟨h1, h2⟩ := wordsOs_look (ws := ws') (b := 0) (σ := fun n => n) (i := i) (hl ▸ h)
    simp only [Nat.zero_add] at h1 h2
    constructor
    · simp only [Hp.get, mkHp, mkT_get _ _ (wordsOs_small (hl ▸ hlim))]; exact h1
    · simp only [Hp.get, mkHp, mkT_get _ _ (wordsOs_small (hl ▸ hlim))]; exact h2
  have hdead : ∀ n o, (mkHp (2 * ws.length) (wordsOs ws 0 fun n => n)).get n = some o → o.live = false := by
    intro n o hg
    obtain ⟨i, hi, ⟨_, rfl⟩ | ⟨_, rfl⟩⟩ := hgetL n o hg
    · cases ws[i] <;> rfl
    · rfl
  refine ⟨hS.os, hS.tape, hS.output, hS.size, hS.prot, fun n o hg => ?_, fun n o hg => ?_, fun n o hg hv => ?_, fun n o hg hv => ?_, fun n m o o' hg hg' hv => ?_, hlim, fun g hg => absurd hg (by omega), fun n o hg => ?_, hS.fro, fun n o hg hv => ?_, hS.pfz⟩
  · obtain ⟨i, hi, ⟨rfl, _⟩ | ⟨rfl, _⟩⟩ := hgetL n o hg <;> simp only [mkHp] <;> omega
  · obtain ⟨i, hi, ⟨rfl, rfl⟩ | ⟨rfl, rfl⟩⟩ := hgetL n o hg
    · cases ws[i] <;> trivial
    · have h1 := hS.obj _ _ (hget' i hi).2
      rw [(hw i hi).1] at h1
      have e : (mkHp (2 * ws'.length) (wordsOs ws' 0 fun n => n)).next = (mkHp (2 * ws.length) (wordsOs ws 0 fun n => n)).next := by simp only [mkHp, hl]
      rw [e] at h1
      exact h1
  · rw [hdead n o hg] at hv; cases hv
  · rw [hdead n o hg] at hv; cases hv
  · rw [hdead n o hg] at hv; cases hv
  · obtain ⟨i, hi, ⟨rfl, rfl⟩ | ⟨rfl, rfl⟩⟩ := hgetL n o hg
    · exact Wd.le_ro (hw i hi) (hS.ro _ _ (hget' i hi).1)
    · trivial
  · rw [hdead n o hg] at hv; cases hv
theorem ConWG.weak {G : Prot → World → Prop} {P : Program} {f : FuncId} {c : ConW} (h : ConWG G P f c) {ws : List Wd} (hl : ws.length = c.ws.length) (hw : ∀ i (h : i < c.ws.length), (ws[i]'(hl ▸ h)).le c.ws[i]) : ConWG G P f { c with ws := ws } := by
  have e2 : 2 * ws.length = 2 * c.ws.length := by rw [hl]
  refine ⟨by simp only; rw [e2]; exact h.lim, by simp only; rw [e2]; exact h.bd, fun ι ι' f g hfg => h.ap ι ι' f g fun i hi => hfg i (by simp only; omega), h.uv, h.un, ?_⟩
  obtain ⟨μL', hL, hn, hnew⟩ := h.run
  refine ⟨μL', ?_, by simp only; rw [e2]; exact hn, fun j o hj => by simp only; rw [e2]; exact hnew j o hj⟩
  intro pr w0 hG ι w hS
  have key := hL pr w0 hG ι w (Sim.weakW hl h.lim hw hS)
  refine key.mono ?_
  rintro e' w' ⟨ι', h1, h2, h3, h4⟩
  refine ⟨ι', ?_, ?_, h3, h4⟩
  · show Ext (2 * ws.length) ι ι'
    rw [e2]; exact h1
  · show 2 * ws.length ≤ _
    rw [e2]; exact h2
theorem rows_pre {α : Type} {f : Nat → List α} {s n m : Nat} (h : ∀ j, j < n → (f j).length = s) : (rows f (n + m)).take (n * s) = rows f n := by
  rw [rows_add, List.take_left' (rows_length h)]
theorem bv_rows (bs : List Int) : bv bs = rows (fun j => [Value.int .u8 (bs.getD j 0)]) bs.length := by
  apply List.ext_getElem?
  intro i
  by_cases hi : i < bs.length
  · rw [rows_at1 (fun _ _ => rfl) hi, bv, List.getElem?_map, List.getD_eq_getElem?_getD, List.getElem?_eq_getElem hi]; rfl
  · rw [List.getElem?_eq_none (by simp [bv]; omega), List.getElem?_eq_none (by rw [rows_length (s := 1) (fun _ _ => rfl)]; omega)]
theorem pre26 (bs : List Int) : (row26 bs (bs.length + 64)).take (bv bs).length = bv bs := by
  have h : (bv bs).length = bs.length * 1 := by simp [bv]
  rw [h, row26, rows_pre (f := fun j => [Value.int .u8 (if j < bs.length then bs.getD j 0 else IntKind.u8.wrap (IntKind.i64.wrap (170 + Int.tmod (j : Int) 5)))]) (s := 1) (fun _ _ => rfl), bv_rows]
  refine rows_ext fun j hj => ?_
  simp [hj]
theorem pre27 (es : List Ent) : (row27 es (es.length + 64)).take (av es).length = av es := by
  rw [av_len, row27, rows_pre (fun j _ => cell27_len es j), av]
  refine rows_ext fun j hj => ?_
  simp only [cell27, List.getElem?_eq_getElem hj, List.getD_eq_getElem?_getD, Option.getD_some]
theorem ivp_len (l : List Idd) : (iv l).length = l.length * 2 := rows_length (s := 2) fun _ _ => rfl
theorem preI (l : List Idd) : (rowI l (l.length + 64)).take (iv l).length = iv l := by
  rw [ivp_len, rowI, rows_pre (s := 2) (fun j hj => by simp only [cellWI, List.getElem?_eq_getElem hj]; rfl), iv]
  refine rows_ext fun j hj => ?_
  simp only [cellWI, List.getElem?_eq_getElem hj, List.getD_eq_getElem?_getD, Option.getD_some]
theorem rqCells_dw (h : Hd) {d a w o d' a' w' o' : Deep} (h1 : DW d d') (h2 : DW a a') (h3 : DW w w') (h4 : DW o o') : DWs (rqCells h d a w o) (rqCells h d' a' w' o') :=
  .cons (.refl _) (.cons (.refl _) (.cons h1 (.cons h2 (.cons (.refl _) (.cons (.refl _) (.cons (.refl _) (.cons (.refl _) (.cons (.refl _) (.cons h3 (.cons h4 (.nil _)))))))))))
theorem rqW_dw (h : Hd) {ds es : List Deep} (n : Nat) (hs : DWs ds es) : DWs (rqW h ds n) (rqD h es n) :=
  rqCells_dw h (dw_slv (pre26 _) _ _) (dw_slv (pre27 _) _ _) (dw_slv (preI _) _ _) (dw_sl hs _ _)
mutual
theorem Rq.dw : ∀ r : Rq, DWs r.w r.d
  | .mk h ops => by rw [Rq.w, Rq.d]; exact rqW_dw h _ ((rqsW_dw ops).more _)
theorem rqsW_dw : ∀ l : List Rq, DWs (rqsW l) (rqsD l)
  | [] => by rw [rqsD]; exact .nil _
  | r :: rs => by
    rw [rqsW, rqsD]
    exact .append (by rw [Rq.w_len, Rq.d_len]) r.dw (rqsW_dw rs)
end
theorem Tx.dw (t : Tx) : DWs t.w t.d := by
  rw [Tx.d_eq, Tx.w]
  exact .cons (.refl _) (.cons (.refl _) (.cons (.refl _) (.cons (.refl _) (.cons (.refl _) t.r.dw))))
theorem rows_dw {f g : Nat → List Deep} {s : Nat} : ∀ {n : Nat}, (∀ j, j < n → (f j).length = s) → (∀ j, j < n → (g j).length = s) → (∀ j, j < n → DWs (f j) (g j)) → DWs (rows f n) (rows g n)
  | 0, _, _, _ => .nil _
  | n + 1, h1, h2, h3 => by
    rw [rows_succ, rows_succ]
    exact .append (by rw [rows_length (fun j hj => h1 j (by omega)), rows_length (fun j hj => h2 j (by omega))]) (rows_dw (fun j hj => h1 j (by omega)) (fun j hj => h2 j (by omega)) fun j hj => h3 j (by omega)) (h3 n (by omega))
theorem rowT_dw (l : List Tx) : DWs (rowT l (l.length + 64)) (txsD l) := by
  rw [rowT, rows_add, txsD]
  refine .more (rows_dw (s := 16) (fun j _ => cellWT_len l j) (fun _ _ => Tx.d_len _) fun j hj => ?_) _
  simp only [cellWT, List.getElem?_eq_getElem hj, List.getD_eq_getElem?_getD, Option.getD_some]
  exact Tx.dw _
end Go.Abs
end
section
namespace Go.Abs
open Go.Proofs
set_option maxRecDepth 100000
theorem e26s_1 (o : Nat) (len : Nat) (c2 : Nat) (k : Nat) (ds : List Deep) (s : ByteArray) (h0 : decide ((↑k : Int) < (↑len : Int)) = true) (h1 : 0 ≤ (↑k : Int) ∧ (↑k : Int) < (↑len : Int)) (h2 : ds[o + Int.toNat (↑k : Int) * 2 + 1]? = some (Deep.val (Value.string s))) (h3 : Int.NonNeg (IntKind.wrap IntKind.i64 (-3000000 - (↑k : Int)) - -9223372036854775808) ∧ Int.NonNeg (9223372036854775807 - IntKind.wrap IntKind.i64 (-3000000 - (↑k : Int)))) (h4 : (!ByteArray.toList s == ByteArray.toList (ByteArray.mk (List.toArray (markT (IntKind.wrap IntKind.i64 (-3000000 - (↑k : Int))))))) = false) :
    Ran (codeO Tryz.prog E1 (smM) noRun 100 26 [0, 0, 1, 0, 1, 1] (codeAt Tryz.f26 [0, 0, 1, 0, 1, 1]) (mkFr 28 (tS17 o len c2 k)) (mkHp 1 (oR ds)) [.skip 4, .b true, .dp [], .skip 2, .sym, .skip 1, .dp [Deep.val (Value.string s)], .skip 5, .b false] True) (Exit.normal) 28 [(3, Value.slice (some (Addr.mk 0 o none)) len c2), (4, Value.int IntKind.i64 (IntKind.wrap IntKind.i64 ((↑k : Int) + 1)))] [(0, AObj.ro ds)] 1 :=
  cameF_of (O := (((((True ∧ decide ((↑k : Int) < (↑len : Int)) = true) ∧ 0 ≤ (↑k : Int) ∧ (↑k : Int) < (↑len : Int)) ∧ ds[o + Int.toNat (↑k : Int) * 2 + 1]? = some (Deep.val (Value.string s))) ∧ Int.NonNeg (IntKind.wrap IntKind.i64 (-3000000 - (↑k : Int)) - -9223372036854775808) ∧ Int.NonNeg (9223372036854775807 - IntKind.wrap IntKind.i64 (-3000000 - (↑k : Int)))) ∧ (!ByteArray.toList s == ByteArray.toList (ByteArray.mk (List.toArray (markT (IntKind.wrap IntKind.i64 (-3000000 - (↑k : Int))))))) = false)) (by kernel_rfl) ⟨⟨⟨⟨⟨trivial, h0⟩, h1⟩, h2⟩, h3⟩, h4⟩
theorem e26s_2 (o : Nat) (len : Nat) (c2 : Nat) (k : Nat) (ds : List Deep) (s : ByteArray) (h0 : decide ((↑k : Int) < (↑len : Int)) = false) :
    Ran (codeO Tryz.prog E1 (smM) noRun 100 26 [0, 0, 1, 0, 1, 1] (codeAt Tryz.f26 [0, 0, 1, 0, 1, 1]) (mkFr 28 (tS17 o len c2 k)) (mkHp 1 (oR ds)) [.skip 4, .b false] True) (Exit.exit 0) 28 [(3, Value.slice (some (Addr.mk 0 o none)) len c2), (4, Value.int IntKind.i64 (↑k : Int))] [(0, AObj.ro ds)] 1 :=
  cameF_of (O := (True ∧ decide ((↑k : Int) < (↑len : Int)) = false)) (by kernel_rfl) ⟨trivial, h0⟩
noncomputable def q26s (o n cap : Nat) (ds : List Deep) : Sm := withL smM 26 [1, 0, 1, 1] (piece 28 (tS17 (o + 0 * 2) (Int.toNat (IntKind.i64.wrap ((n : Int) + 64)) - 0) (cap - 2 * 0) n) (oR ds) 1 .normal (mkFr 28 []) (mkHp 1 (oR ds)))
theorem c26s_came (o : Nat) (n : Nat) (cap : Nat) (ds : List Deep) (h0 : 0 ≤ IntKind.wrap .i64 ((↑n : Int) + 64)) (h1 : IntKind.wrap .i64 ((↑n : Int) + 64) ≤ (↑(capOf cap) : Int)) (h2 : 0 ≤ capOf cap) (h3 : 0 ≠ capOf cap) :
    RanC (runO Tryz.prog E1 (q26s o n cap ds) noRun 100 26 [Value.slice (some ⟨0, o, none⟩) n cap] (mkHp 1 (oR ds)) [.skip 5, .sym] True) (.returned (Value.bool true)) [(0, AObj.ro ds)] 1 :=
  cameCF_of (O := ((True ∧ ((0 ≤ IntKind.wrap .i64 ((↑n : Int) + 64) ∧ IntKind.wrap .i64 ((↑n : Int) + 64) ≤ (↑(capOf cap) : Int)) ∧ True ∧ 0 ≤ capOf cap) ∧ 0 ≠ capOf cap) ∧ SelfP 28 (tS17 (o + 0 * 2) (Int.toNat (IntKind.wrap .i64 ((↑n : Int) + 64)) - 0) (cap - 2 * 0) n) (oR ds) 1)) (by kernel_rfl) ⟨⟨trivial, ⟨⟨⟨h0, h1⟩, ⟨trivial, h2⟩⟩, h3⟩⟩, selfP_true _ _ _ _⟩
theorem con26s {o n cap : Nat} {ds : List Deep} (hvs : ∀ k, n ≤ k → k < n + 64 → ds[o + k * 2 + 1]? = some (.val (.string ⟨(markT (IntKind.i64.wrap (-3000000 - (k : Int)))).toArray⟩))) (hlen : n < 1099511627776) (hcap : n + 64 ≤ capOf cap) :
    ConG Tab Tryz.prog 26 ⟨fun σ => [.slice (some ⟨σ 0, o, none⟩) n cap], oR ds, 1, fun _ => .bool true, fun _ => []⟩ := by
  have hF : ∀ ts, (∀ p ∈ ts, Bd 1 p.2) → smallN ts = true → Fits 1 ts (oR ds) 1 := fun ts h1 h2 => ⟨h2, rfl, h1, by simp [oR, BdO], by decide, by decide⟩
  have hw : IntKind.i64.wrap ((n : Int) + 64) = ((n + 64 : Nat) : Int) := by
    rw [i64_small (by omega) (by omega)]; omega
  have hw' : (Int.toNat (IntKind.i64.wrap ((n : Int) + 64)) - 0) = n + 64 := by rw [hw]; omega
  refine conG_read hP1 (s := q26s o n cap ds) (fun pr w0 hG => withL_ok (smM_ok pr w0 hG) (fn := Tryz.f26) (c := .block 0 (.loop (codeAt Tryz.f26 [0, 0, 1, 0, 1, 1]))) (by kernel_rfl) (by kernel_rfl) (block_end (hF _ (by simp [tS17]) rfl) ?_)) (c26s_came o n cap ds (by rw [hw]; omega) (by rw [hw]; omega) (by omega) (by omega)) (hF _ (by simp) rfl) (hF _ (by simp) rfl) (by simp) (by simp) (by intro σ; simp [upV]) (by intro σ; simp [upV])
  rw [hw']
  have hh : Here E1 26 [0, 0, 1, 0, 1, 1] (codeAt Tryz.f26 [0, 0, 1, 0, 1, 1]) := codeAt_here (fn := Tryz.f26) (by kernel_rfl) (by kernel_rfl)
  refine rounds_tri (T := { k : Nat // n ≤ k ∧ k ≤ n + 64 }) ⟨28, fun t => tS17 (o + 0 * 2) (n + 64) (cap - 2 * 0) t.1, fun _ => oR ds, fun _ => 1, fun t => n + 64 - t.1⟩ ?_ ⟨n, Nat.le_refl _, by omega⟩
  rintro ⟨k, hk1, hk⟩
  by_cases hlt : k < n + 64
  · refine on_came hP1 (smM_ok pr w0 hG) hh (e26s_1 (o + 0 * 2) (n + 64) (cap - 2 * 0) k ds ⟨(markT (IntKind.i64.wrap (-3000000 - (k : Int)))).toArray⟩ (by simp; omega) (by omega) (by have := hvs k hk1 hlt; rw [Nat.zero_mul, Nat.add_zero]; exact this) rng_mark (by simp)) ⟨k + 1, by omega, by omega⟩ ?_ rfl rfl (by simp only; omega) (hF _ (by simp [tS17]) rfl)
    rw [i64_succ (by omega)]; rfl
  · have hc := cut_came (e26s_2 (o + 0 * 2) (n + 64) (cap - 2 * 0) k ds ⟨#[]⟩ (by simp; omega)) (ts' := []) (by simp)
    exact out_came hP1 (smM_ok pr w0 hG) hh hc (by simp) (by simp) (hF _ (by simp) rfl) ⟨rfl, rfl, rfl⟩
end Go.Abs
end
section
namespace Go.Abs
open Go.Proofs
set_option maxRecDepth 100000
def kn17 (n : Nat) (ds : List Deep) : Con := ⟨fun σ => [.slice (some ⟨σ 0, 0, none⟩) n (2 * (n + 64))], oR ds, 1, fun _ => .bool true, fun _ => []⟩
def pv (c : Con) : SumO := fun args μ => match args with
  | [.slice (some a) _ _] => viewS [a.block] c args μ
  | _ => none
def o16 (u : Hd) (rw : List Deep) : List (Nat × AObj) := [(0, .ro ((row26 u.bs (u.bs.length + 64)).map .val)), (1, .ro ((row27 u.es (u.es.length + 64)).map .val)), (2, .ro ((rowI u.who (u.who.length + 64)).map .val)), (3, .ro rw)]
def kn16s (u : Hd) (rw : List Deep) (n : Nat) : Con := ⟨fun σ => [.agg ⟨vW u n (σ 0) (σ 1) (σ 2) (σ 3)⟩], o16 u rw, 4, fun _ => .bool true, fun _ => []⟩
def pvR (c : Con) : SumO := fun args μ => match args with
  | [.agg ⟨[_, _, .slice (some a) _ _, .slice (some b) _ _, _, _, _, _, _, .slice (some w) _ _, .slice (some o) _ _]⟩] => viewS [a.block, b.block, w.block, o.block] c args μ
  | _ => none
def s16 (u : Hd) (rw : List Deep) (n : Nat) : Sm := withS (withS (withS (withS sm0 24 (pv (kn17 u.bs.length ((row26 u.bs (u.bs.length + 64)).map .val)))) 25 (pv (kn17 u.es.length ((row27 u.es (u.es.length + 64)).map .val)))) 26 (pv (kn17 u.who.length ((rowI u.who (u.who.length + 64)).map .val)))) 27 (pv (kn17 n rw))
def s27 (u : Hd) (rw : List Deep) (n : Nat) : Sm := withS sm0 16 (pvR (kn16s u rw n))
def t27a (n len c2 c k : Nat) : List (Nat × Value) := [(0, .slice (some ⟨0, 0, none⟩) n c), (3, .slice (some ⟨0, 0, none⟩) len c2), (4, .int .i64 k)]
def t27b (n c k : Nat) : List (Nat × Value) := [(0, .slice (some ⟨0, 0, none⟩) n c), (5, .int .i64 k)]
theorem c16s_came (u : Hd) (rw : List Deep) (n : Nat)  :
    RanC (runO Tryz.prog E1 (s16 u rw n) noRun 100 16 [Value.agg (Array.mk (vW u n 0 1 2 3))] (mkHp 4 (o16 u rw)) [] True) (.returned (Value.bool true)) [(0, AObj.ro (List.map Deep.val (row26 u.bs (List.length u.bs + 64)))), (1, AObj.ro (List.map Deep.val (row27 u.es (List.length u.es + 64)))), (2, AObj.ro (List.map Deep.val (rowI u.who (List.length u.who + 64)))), (3, AObj.ro rw), (4, AObj.cells [Value.int .i8 u.k, Value.string u.pa, Value.slice (some ⟨0, 0, none⟩) (List.length u.bs) (2 * (List.length u.bs + 64)), Value.slice (some ⟨1, 0, none⟩) (List.length u.es) (2 * (List.length u.es + 64)), Value.int .i32 u.ver, Value.bool u.eph, Value.bool u.sq, Value.int .i64 u.ses, Value.int .i32 u.tmo, Value.slice (some ⟨2, 0, none⟩) (List.length u.who) (2 * (List.length u.who + 64)), Value.slice (some ⟨3, 0, none⟩) n (2 * (n + 64))] 0)] 5 :=
  cameCF_of (O := ((((True ∧ ([Value.slice (some ⟨0, 0, none⟩) (List.length u.bs) (2 * (List.length u.bs + 64))] = [Value.slice (some ⟨0, 0, none⟩) (List.length u.bs) (2 * (List.length u.bs + 64))] ∧ true = true ∧ true = true) ∧ List.map Deep.val (row26 u.bs (List.length u.bs + 64)) = List.map Deep.val (row26 u.bs (List.length u.bs + 64)) ∧ True) ∧ ([Value.slice (some ⟨1, 0, none⟩) (List.length u.es) (2 * (List.length u.es + 64))] = [Value.slice (some ⟨1, 0, none⟩) (List.length u.es) (2 * (List.length u.es + 64))] ∧ true = true ∧ true = true) ∧ List.map Deep.val (row27 u.es (List.length u.es + 64)) = List.map Deep.val (row27 u.es (List.length u.es + 64)) ∧ True) ∧ ([Value.slice (some ⟨2, 0, none⟩) (List.length u.who) (2 * (List.length u.who + 64))] = [Value.slice (some ⟨2, 0, none⟩) (List.length u.who) (2 * (List.length u.who + 64))] ∧ true = true ∧ true = true) ∧ List.map Deep.val (rowI u.who (List.length u.who + 64)) = List.map Deep.val (rowI u.who (List.length u.who + 64)) ∧ True) ∧ ([Value.slice (some ⟨3, 0, none⟩) n (2 * (n + 64))] = [Value.slice (some ⟨3, 0, none⟩) n (2 * (n + 64))] ∧ true = true ∧ true = true) ∧ rw = rw ∧ True)) (by kernel_rfl) ⟨⟨⟨⟨trivial, ⟨⟨rfl, ⟨rfl, rfl⟩⟩, ⟨rfl, trivial⟩⟩⟩, ⟨⟨rfl, ⟨rfl, rfl⟩⟩, ⟨rfl, trivial⟩⟩⟩, ⟨⟨rfl, ⟨rfl, rfl⟩⟩, ⟨rfl, trivial⟩⟩⟩, ⟨⟨rfl, ⟨rfl, rfl⟩⟩, ⟨rfl, trivial⟩⟩⟩
theorem e27a_came (n : Nat) (len : Nat) (c2 : Nat) (c : Nat) (k : Nat) (ds : List Deep) (x : Int) (h0 : decide ((↑k : Int) < (↑len : Int)) = true) (h1 : 0 ≤ (↑k : Int) ∧ (↑k : Int) < (↑len : Int)) (h2 : ds[0 + Int.toNat (↑k : Int) * 11 + 7]? = some (Deep.val (Value.int .i64 x))) (h3 : (!x == IntKind.wrap .i64 (-3000000 - (↑k : Int))) = false) :
    Ran (codeO Tryz.prog E1 (sm0) noRun 100 27 [0, 0, 1, 0, 1, 1] (codeAt Tryz.f27 [0, 0, 1, 0, 1, 1]) (mkFr 42 (t27a n len c2 c k)) (mkHp 1 (oR ds)) [.skip 4, .b true, .skip 2, .sym, .skip 1, .dp [Deep.val (Value.int .i64 x)], .skip 4, .b false] True) (Exit.normal) 42 [(0, Value.slice (some ⟨0, 0, none⟩) n c), (3, Value.slice (some ⟨0, 0, none⟩) len c2), (4, Value.int .i64 (IntKind.wrap .i64 ((↑k : Int) + 1)))] [(0, AObj.ro ds)] 1 :=
  cameF_of (O := ((((True ∧ decide ((↑k : Int) < (↑len : Int)) = true) ∧ 0 ≤ (↑k : Int) ∧ (↑k : Int) < (↑len : Int)) ∧ ds[0 + Int.toNat (↑k : Int) * 11 + 7]? = some (Deep.val (Value.int .i64 x))) ∧ (!x == IntKind.wrap .i64 (-3000000 - (↑k : Int))) = false)) (by kernel_rfl) ⟨⟨⟨⟨trivial, h0⟩, h1⟩, h2⟩, h3⟩
theorem e27b_came (n : Nat) (len : Nat) (c2 : Nat) (c : Nat) (k : Nat) (ds : List Deep) (h0 : decide ((↑k : Int) < (↑len : Int)) = false) :
    Ran (codeO Tryz.prog E1 (sm0) noRun 100 27 [0, 0, 1, 0, 1, 1] (codeAt Tryz.f27 [0, 0, 1, 0, 1, 1]) (mkFr 42 (t27a n len c2 c k)) (mkHp 1 (oR ds)) [.skip 4, .b false] True) (Exit.exit 0) 42 [(0, Value.slice (some ⟨0, 0, none⟩) n c), (3, Value.slice (some ⟨0, 0, none⟩) len c2), (4, Value.int .i64 (↑k : Int))] [(0, AObj.ro ds)] 1 :=
  cameF_of (O := (True ∧ decide ((↑k : Int) < (↑len : Int)) = false)) (by kernel_rfl) ⟨trivial, h0⟩
theorem e27c_came (n : Nat) (c : Nat) (k : Nat) (ds : List Deep) (u : Hd) (rw : List Deep) (n1 : Nat) (h0 : decide ((↑k : Int) < (↑n : Int)) = true) (h1 : 0 ≤ (↑k : Int) ∧ (↑k : Int) < (↑n : Int)) (h2 : List.take 11 (List.drop (0 + Int.toNat (↑k : Int) * 11) ds) = rqW u rw n1) :
    Ran (codeO Tryz.prog E1 (s27 u rw n1) noRun 100 27 [0, 0, 1, 0, 1, 1, 1] (codeAt Tryz.f27 [0, 0, 1, 0, 1, 1, 1]) (mkFr 42 (t27b n c k)) (mkHp 1 (oR ds)) [.skip 4, .b true, .skip 2, .sym, .dp (rqW u rw n1)] True) (Exit.normal) 42 [(0, Value.slice (some ⟨0, 0, none⟩) n c), (5, Value.int .i64 (IntKind.wrap .i64 ((↑k : Int) + 1)))] [(0, AObj.ro ds), (1, AObj.ro (List.map Deep.val (row26 u.bs (List.length u.bs + 64)))), (2, AObj.ro (List.map Deep.val (row27 u.es (List.length u.es + 64)))), (3, AObj.ro (List.map Deep.val (rowI u.who (List.length u.who + 64)))), (4, AObj.ro rw)] 5 :=
  cameF_of (O := ((((True ∧ decide ((↑k : Int) < (↑n : Int)) = true) ∧ 0 ≤ (↑k : Int) ∧ (↑k : Int) < (↑n : Int)) ∧ List.take 11 (List.drop (0 + Int.toNat (↑k : Int) * 11) ds) = rqW u rw n1) ∧ ([Value.agg (Array.mk [Value.int .i8 u.k, Value.string u.pa, Value.slice (some ⟨1, 0, none⟩) (List.length u.bs) (2 * (List.length u.bs + 64)), Value.slice (some ⟨2, 0, none⟩) (List.length u.es) (2 * (List.length u.es + 64)), Value.int .i32 u.ver, Value.bool u.eph, Value.bool u.sq, Value.int .i64 u.ses, Value.int .i32 u.tmo, Value.slice (some ⟨3, 0, none⟩) (List.length u.who) (2 * (List.length u.who + 64)), Value.slice (some ⟨4, 0, none⟩) n1 (2 * (n1 + 64))])] = [Value.agg (Array.mk [Value.int .i8 u.k, Value.string u.pa, Value.slice (some ⟨1, 0, none⟩) (List.length u.bs) (2 * (List.length u.bs + 64)), Value.slice (some ⟨2, 0, none⟩) (List.length u.es) (2 * (List.length u.es + 64)), Value.int .i32 u.ver, Value.bool u.eph, Value.bool u.sq, Value.int .i64 u.ses, Value.int .i32 u.tmo, Value.slice (some ⟨3, 0, none⟩) (List.length u.who) (2 * (List.length u.who + 64)), Value.slice (some ⟨4, 0, none⟩) n1 (2 * (n1 + 64))])] ∧ true = true ∧ true = true) ∧ List.map Deep.val (row26 u.bs (List.length u.bs + 64)) = List.map Deep.val (row26 u.bs (List.length u.bs + 64)) ∧ List.map Deep.val (row27 u.es (List.length u.es + 64)) = List.map Deep.val (row27 u.es (List.length u.es + 64)) ∧ List.map Deep.val (rowI u.who (List.length u.who + 64)) = List.map Deep.val (rowI u.who (List.length u.who + 64)) ∧ rw = rw ∧ True)) (by kernel_rfl) ⟨⟨⟨⟨trivial, h0⟩, h1⟩, h2⟩, ⟨⟨rfl, ⟨rfl, rfl⟩⟩, ⟨rfl, ⟨rfl, ⟨rfl, ⟨rfl, trivial⟩⟩⟩⟩⟩⟩
theorem e27d_came (n : Nat) (c : Nat) (k : Nat) (ds : List Deep) (h0 : decide ((↑k : Int) < (↑n : Int)) = false) :
    Ran (codeO Tryz.prog E1 (sm0) noRun 100 27 [0, 0, 1, 0, 1, 1, 1] (codeAt Tryz.f27 [0, 0, 1, 0, 1, 1, 1]) (mkFr 42 (t27b n c k)) (mkHp 1 (oR ds)) [.skip 4, .b false] True) (Exit.exit 2) 42 [(0, Value.slice (some ⟨0, 0, none⟩) n c), (5, Value.int .i64 (↑k : Int))] [(0, AObj.ro ds)] 1 :=
  cameF_of (O := (True ∧ decide ((↑k : Int) < (↑n : Int)) = false)) (by kernel_rfl) ⟨trivial, h0⟩
noncomputable def q27s (n c : Nat) (ds : List Deep) : Sm := withL (withL sm0 27 [1, 0, 1, 1] (piece 42 (t27a n (Int.toNat (IntKind.i64.wrap ((n : Int) + 64)) - 0) (c - 2 * 0) c n) (oR ds) 1 .normal (mkFr 42 [(0, .slice (some ⟨0, 0, none⟩) n c)]) (mkHp 1 (oR ds)))) 27 [1, 0, 1, 1, 1] (piece 42 (t27b n c 0) (oR ds) 1 .normal (mkFr 42 []) (mkHp 1 (oR ds)))
theorem c27s_came (n : Nat) (c : Nat) (ds : List Deep) (h0 : 0 ≤ IntKind.wrap .i64 ((↑n : Int) + 64)) (h1 : IntKind.wrap .i64 ((↑n : Int) + 64) ≤ (↑(capOf c) : Int)) (h2 : 0 ≤ capOf c) (h3 : 0 ≠ capOf c) :
    RanC (runO Tryz.prog E1 (q27s n c ds) noRun 100 27 [Value.slice (some ⟨0, 0, none⟩) n c] (mkHp 1 (oR ds)) [.skip 5, .sym] True) (.returned (Value.bool true)) [(0, AObj.ro ds)] 1 :=
  cameCF_of (O := (((True ∧ ((0 ≤ IntKind.wrap .i64 ((↑n : Int) + 64) ∧ IntKind.wrap .i64 ((↑n : Int) + 64) ≤ (↑(capOf c) : Int)) ∧ True ∧ 0 ≤ capOf c) ∧ 0 ≠ capOf c) ∧ SelfP 42 (t27a n (Int.toNat (IntKind.wrap .i64 ((↑n : Int) + 64)) - 0) (c - 2 * 0) c n) (oR ds) 1) ∧ SelfP 42 (t27b n c 0) (oR ds) 1)) (by kernel_rfl) ⟨⟨⟨trivial, ⟨⟨⟨h0, h1⟩, ⟨trivial, h2⟩⟩, h3⟩⟩, selfP_true _ _ _ _⟩, selfP_true _ _ _ _⟩
theorem pv_ok {pr : Prot} {w0 : World} (hG : Tab pr w0) {f : Nat} {c : Con} (h : ConG Tab Tryz.prog f c) : SumOk Tryz.prog pr w0 0 f (pv c) := by
  intro args μ e μ' p hg
  unfold pv at hg
  split at hg
  · exact viewG_ok tab_stands.stands hG h _ _ μ e μ' p hg
  · cases hg
theorem pvR_ok {pr : Prot} {w0 : World} (hG : Tab pr w0) {f : Nat} {c : Con} (h : ConG Tab Tryz.prog f c) : SumOk Tryz.prog pr w0 0 f (pvR c) := by
  intro args μ e μ' p hg
  unfold pvR at hg
  split at hg
  · exact viewG_ok tab_stands.stands hG h _ _ μ e μ' p hg
  · cases hg
theorem mark26 {bs : List Int} {m k : Nat} (h1 : bs.length ≤ k) (h2 : k < m) : ((row26 bs m).map Deep.val)[0 + k]? = some (.val (.int .u8 (mkB k))) := by
  rw [Nat.zero_add, List.getElem?_map, row26, rows_at1 (fun _ _ => rfl) h2]
  simp [Nat.not_lt.2 h1, mkB]
theorem mark27 {es : List Ent} {m k : Nat} (h1 : es.length ≤ k) (h2 : k < m) : ((row27 es m).map Deep.val)[0 + k * 3 + 1 + 1]? = some (.val (.string ⟨(markT (IntKind.i64.wrap (-3000000 - (k : Int)))).toArray⟩)) := by
  rw [Nat.zero_add, show k * 3 + 1 + 1 = k * 3 + 2 by omega, List.getElem?_map, row27, rows_get (s := 3) (fun j _ => cell27_len es j) h2 (by omega)]
  simp [cell27, List.getElem?_eq_none h1, markA]
theorem markI' {es : List Idd} {m k : Nat} (h1 : es.length ≤ k) (h2 : k < m) : ((rowI es m).map Deep.val)[0 + k * 2 + 1]? = some (.val (.string ⟨(markT (IntKind.i64.wrap (-3000000 - (k : Int)))).toArray⟩)) := by
  rw [Nat.zero_add, List.getElem?_map, rowI, rows_get (s := 2) (fun j _ => cellWI_len es j) h2 (by omega)]
  simp [cellWI, List.getElem?_eq_none h1, markI]
theorem con16s {u : Hd} {rw : List Deep} {n : Nat} (hu : u.small) (hc : ConG Tab Tryz.prog 27 (kn17 n rw)) : ConG Tab Tryz.prog 16 (kn16s u rw n) := by
  refine conG_read hP1 (s := s16 u rw n) (fun pr w0 hG => withS_ok (withS_ok (withS_ok (withS_ok (sm0_ok pr w0) (pv_ok hG (c := kn17 _ _) ((con17 (fun k => mark26) (by have := hu.bs; omega) (by simp [capOf])).toG))) (pv_ok hG (c := kn17 _ _) (con18 (fun k => mark27) hu.es (by simp [capOf])))) (pv_ok hG (c := kn17 _ _) (con26s (fun k => markI') hu.who (by simp [capOf])))) (pv_ok hG hc)) (c16s_came u rw n) ⟨rfl, rfl, by simp, by simp [o16, BdO], by decide, by decide⟩ ⟨rfl, rfl, by simp, ?_, by decide, by decide⟩ (by simp [vW, rqVals]) (by simp) (by intro σ; simp [vW, rqVals, upV]) (by intro σ; simp [upV])
  intro p hp
  simp [boxRq, rqVals] at hp
  rcases hp with rfl | rfl | rfl | rfl | rfl <;> simp [BdO]
def Ks (l : List Rq) : Con := kn17 l.length (rowR l (l.length + 64))
theorem con27q {l : List Rq} (hl : l.length < 1099511627776) (hs : ∀ r ∈ l, r.h.small ∧ ConG Tab Tryz.prog 27 (Ks r.ops)) : ConG Tab Tryz.prog 27 (Ks l) := by
  have hF : ∀ ts, (∀ p ∈ ts, Bd 1 p.2) → smallN ts = true → Fits 1 ts (oR (rowR l (l.length + 64))) 1 := fun ts h1 h2 => ⟨h2, rfl, h1, by simp [oR, BdO], by decide, by decide⟩
  have hw : IntKind.i64.wrap ((l.length : Int) + 64) = ((l.length + 64 : Nat) : Int) := by
    rw [i64_small (by omega) (by omega)]; omega
  have hw' : (Int.toNat (IntKind.i64.wrap ((l.length : Int) + 64)) - 0) = l.length + 64 := by rw [hw]; omega
  have hcap : capOf (2 * (l.length + 64)) = l.length + 64 := by simp [capOf]
  have hk0 : ∀ k : Nat, 0 + Int.toNat (k : Int) * 11 = k * 11 := by intro k; simp
  unfold Ks kn17
  refine conG_read hP1 (s := q27s l.length (2 * (l.length + 64)) (rowR l (l.length + 64))) (fun pr w0 hG => withL_ok (withL_ok (sm0_ok pr w0) (fn := Tryz.f27) (c := .block 0 (.loop (codeAt Tryz.f27 [0, 0, 1, 0, 1, 1]))) (by kernel_rfl) (by kernel_rfl) (block_end (hF _ (by simp [t27a]) rfl) ?_)) (fn := Tryz.f27) (c := .block 2 (.loop (codeAt Tryz.f27 [0, 0, 1, 0, 1, 1, 1]))) (by kernel_rfl) (by kernel_rfl) (block_end (hF _ (by simp [t27b]) rfl) ?_)) (c27s_came l.length (2 * (l.length + 64)) (rowR l (l.length + 64)) ?_ ?_ ?_ ?_) (hF _ (by simp) rfl) (hF _ (by simp) rfl) (by simp) (by simp) (by intro σ; simp [upV]) (by intro σ; simp [upV])
  · rw [hw']
    have hh : Here E1 27 [0, 0, 1, 0, 1, 1] (codeAt Tryz.f27 [0, 0, 1, 0, 1, 1]) := codeAt_here (fn := Tryz.f27) (by kernel_rfl) (by kernel_rfl)
    refine rounds_tri (T := { k : Nat // l.length ≤ k ∧ k ≤ l.length + 64 }) ⟨42, fun t => t27a l.length (l.length + 64) (2 * (l.length + 64) - 2 * 0) (2 * (l.length + 64)) t.1, fun _ => oR (rowR l (l.length + 64)), fun _ => 1, fun t => l.length + 64 - t.1⟩ ?_ ⟨l.length, Nat.le_refl _, by omega⟩
    rintro ⟨k, hk1, hk⟩
    by_cases hlt : k < l.length + 64
    · have hc := e27a_came l.length (l.length + 64) (2 * (l.length + 64) - 2 * 0) (2 * (l.length + 64)) k (rowR l (l.length + 64)) (IntKind.wrap IntKind.i64 (-3000000 - (k : Int))) (by simp; omega) (by omega) (by
        have := rows_get (f := cellWR l) (s := 11) (m := l.length + 64) (fun j _ => cellWR_len l j) hlt (r := 7) (by omega)
        rw [hk0, rowR, this]
        simp [cellWR, List.getElem?_eq_none hk1, markR, rqCells]) (by simp)
      rw [i64_succ (by omega)] at hc
      exact on_came hP1 (sm0_ok pr w0) hh hc ⟨k + 1, by omega, by omega⟩ rfl rfl rfl (by simp only; omega) (hF _ (by simp [t27a]) rfl)
    · have hc := cut_came (e27b_came l.length (l.length + 64) (2 * (l.length + 64) - 2 * 0) (2 * (l.length + 64)) k (rowR l (l.length + 64)) (by simp; omega)) (ts' := [(0, .slice (some ⟨0, 0, none⟩) l.length (2 * (l.length + 64)))]) (by simp)
      exact out_came hP1 (sm0_ok pr w0) hh hc (by simp) (by simp) (hF _ (by simp) rfl) ⟨rfl, rfl, rfl⟩
  · have hh : Here E1 27 [0, 0, 1, 0, 1, 1, 1] (codeAt Tryz.f27 [0, 0, 1, 0, 1, 1, 1]) := codeAt_here (fn := Tryz.f27) (by kernel_rfl) (by kernel_rfl)
    refine rounds_tri (T := { k : Nat // k ≤ l.length }) ⟨42, fun t => t27b l.length (2 * (l.length + 64)) t.1, fun _ => oR (rowR l (l.length + 64)), fun _ => 1, fun t => l.length - t.1⟩ ?_ ⟨0, Nat.zero_le _⟩
    rintro ⟨k, hk⟩
    by_cases hlt : k < l.length
    · obtain ⟨hsm, hcr⟩ := hs l[k] (List.getElem_mem hlt)
      have hcell : cellWR l k = l[k].w := by simp only [cellWR, List.getElem?_eq_getElem hlt]
      have hc := e27c_came l.length (2 * (l.length + 64)) k (rowR l (l.length + 64)) l[k].h (rowR l[k].ops (l[k].ops.length + 64)) l[k].ops.length (by simp; omega) (by omega) (by
        rw [hk0, rowR, rows_at (f := cellWR l) (s := 11) (m := l.length + 64) (fun j _ => cellWR_len l j) (by omega), hcell, Rq.w_eq])
      rw [i64_succ (by omega)] at hc
      exact on_keep hP1 (withS_ok (sm0_ok pr w0) (pvR_ok hG (con16s hsm hcr))) hh hc ⟨k + 1, hlt⟩ (by simp [t27b]) (by simp [oR]) (by simp only; omega) (hF _ (by simp [t27b]) rfl)
    · have hc := cut_came (e27d_came l.length (2 * (l.length + 64)) k (rowR l (l.length + 64)) (by simp; omega)) (ts' := []) (by simp)
      exact out_came hP1 (sm0_ok pr w0) hh hc (by simp) (by simp) (hF _ (by simp) rfl) ⟨rfl, rfl, rfl⟩
  · omega
  · rw [hcap, hw]; omega
  · omega
  · rw [hcap]; omega
theorem con27r : ∀ (m : Nat) (l : List Rq), rqsParts l ≤ m → rqsParts l < 1099511627776 → ConG Tab Tryz.prog 27 (Ks l)
  | m, l, hm, hb => by
    refine con27q (by have := rqsParts_len l; omega) fun r hr => ?_
    have h1 := parts_mem hr
    have h2 := r.ops_parts
    refine ⟨Rq.small (by omega), ?_⟩
    match m, hm with
    | 0, hm => omega
    | m + 1, hm => exact con27r m r.ops (by omega) (by omega)
end Go.Abs
end
section
namespace Go.Abs
open Go.Proofs
set_option maxRecDepth 100000
theorem e9a_came (n : Nat) (len : Nat) (c2 : Nat) (c : Nat) (k : Nat) (ds : List Deep) (x : Int) (h0 : decide ((↑k : Int) < (↑len : Int)) = true) (h1 : 0 ≤ (↑k : Int) ∧ (↑k : Int) < (↑len : Int)) (h2 : ds[0 + Int.toNat (↑k : Int) * 16 + 2 + 2]? = some (Deep.val (Value.int .i64 x))) (h3 : (!x == IntKind.wrap .i64 (-3000000 - (↑k : Int))) = false) :
    Ran (codeO Tryz.prog E1 (sm0) noRun 100 9 [0, 0, 1, 0, 1, 1] (codeAt Tryz.f9 [0, 0, 1, 0, 1, 1]) (mkFr 44 (t27a n len c2 c k)) (mkHp 1 (oR ds)) [.skip 4, .b true, .skip 2, .sym, .skip 2, .dp [Deep.val (Value.int .i64 x)], .skip 4, .b false] True) (Exit.normal) 44 [(0, Value.slice (some ⟨0, 0, none⟩) n c), (3, Value.slice (some ⟨0, 0, none⟩) len c2), (4, Value.int .i64 (IntKind.wrap .i64 ((↑k : Int) + 1)))] [(0, AObj.ro ds)] 1 :=
  cameF_of (O := ((((True ∧ decide ((↑k : Int) < (↑len : Int)) = true) ∧ 0 ≤ (↑k : Int) ∧ (↑k : Int) < (↑len : Int)) ∧ ds[0 + Int.toNat (↑k : Int) * 16 + 2 + 2]? = some (Deep.val (Value.int .i64 x))) ∧ (!x == IntKind.wrap .i64 (-3000000 - (↑k : Int))) = false)) (by kernel_rfl) ⟨⟨⟨⟨trivial, h0⟩, h1⟩, h2⟩, h3⟩
theorem e9b_came (n : Nat) (len : Nat) (c2 : Nat) (c : Nat) (k : Nat) (ds : List Deep) (h0 : decide ((↑k : Int) < (↑len : Int)) = false) :
    Ran (codeO Tryz.prog E1 (sm0) noRun 100 9 [0, 0, 1, 0, 1, 1] (codeAt Tryz.f9 [0, 0, 1, 0, 1, 1]) (mkFr 44 (t27a n len c2 c k)) (mkHp 1 (oR ds)) [.skip 4, .b false] True) (Exit.exit 0) 44 [(0, Value.slice (some ⟨0, 0, none⟩) n c), (3, Value.slice (some ⟨0, 0, none⟩) len c2), (4, Value.int .i64 (↑k : Int))] [(0, AObj.ro ds)] 1 :=
  cameF_of (O := (True ∧ decide ((↑k : Int) < (↑len : Int)) = false)) (by kernel_rfl) ⟨trivial, h0⟩
theorem e9c_came (n : Nat) (c : Nat) (k : Nat) (ds : List Deep) (u : Hd) (rw : List Deep) (n1 : Nat) (h0 : decide ((↑k : Int) < (↑n : Int)) = true) (h1 : 0 ≤ (↑k : Int) ∧ (↑k : Int) < (↑n : Int)) (h2 : List.take 11 (List.drop (0 + Int.toNat (↑k : Int) * 16 + 5) ds) = rqW u rw n1) :
    Ran (codeO Tryz.prog E1 (s27 u rw n1) noRun 100 9 [0, 0, 1, 0, 1, 1, 1] (codeAt Tryz.f9 [0, 0, 1, 0, 1, 1, 1]) (mkFr 44 (t27b n c k)) (mkHp 1 (oR ds)) [.skip 4, .b true, .skip 2, .sym, .skip 1, .dp (rqW u rw n1)] True) (Exit.normal) 44 [(0, Value.slice (some ⟨0, 0, none⟩) n c), (5, Value.int .i64 (IntKind.wrap .i64 ((↑k : Int) + 1)))] [(0, AObj.ro ds), (1, AObj.ro (List.map Deep.val (row26 u.bs (List.length u.bs + 64)))), (2, AObj.ro (List.map Deep.val (row27 u.es (List.length u.es + 64)))), (3, AObj.ro (List.map Deep.val (rowI u.who (List.length u.who + 64)))), (4, AObj.ro rw)] 5 :=
  cameF_of (O := ((((True ∧ decide ((↑k : Int) < (↑n : Int)) = true) ∧ 0 ≤ (↑k : Int) ∧ (↑k : Int) < (↑n : Int)) ∧ List.take 11 (List.drop (0 + Int.toNat (↑k : Int) * 16 + 5) ds) = rqW u rw n1) ∧ ([Value.agg (Array.mk [Value.int .i8 u.k, Value.string u.pa, Value.slice (some ⟨1, 0, none⟩) (List.length u.bs) (2 * (List.length u.bs + 64)), Value.slice (some ⟨2, 0, none⟩) (List.length u.es) (2 * (List.length u.es + 64)), Value.int .i32 u.ver, Value.bool u.eph, Value.bool u.sq, Value.int .i64 u.ses, Value.int .i32 u.tmo, Value.slice (some ⟨3, 0, none⟩) (List.length u.who) (2 * (List.length u.who + 64)), Value.slice (some ⟨4, 0, none⟩) n1 (2 * (n1 + 64))])] = [Value.agg (Array.mk [Value.int .i8 u.k, Value.string u.pa, Value.slice (some ⟨1, 0, none⟩) (List.length u.bs) (2 * (List.length u.bs + 64)), Value.slice (some ⟨2, 0, none⟩) (List.length u.es) (2 * (List.length u.es + 64)), Value.int .i32 u.ver, Value.bool u.eph, Value.bool u.sq, Value.int .i64 u.ses, Value.int .i32 u.tmo, Value.slice (some ⟨3, 0, none⟩) (List.length u.who) (2 * (List.length u.who + 64)), Value.slice (some ⟨4, 0, none⟩) n1 (2 * (n1 + 64))])] ∧ true = true ∧ true = true) ∧ List.map Deep.val (row26 u.bs (List.length u.bs + 64)) = List.map Deep.val (row26 u.bs (List.length u.bs + 64)) ∧ List.map Deep.val (row27 u.es (List.length u.es + 64)) = List.map Deep.val (row27 u.es (List.length u.es + 64)) ∧ List.map Deep.val (rowI u.who (List.length u.who + 64)) = List.map Deep.val (rowI u.who (List.length u.who + 64)) ∧ rw = rw ∧ True)) (by kernel_rfl) ⟨⟨⟨⟨trivial, h0⟩, h1⟩, h2⟩, ⟨⟨rfl, ⟨rfl, rfl⟩⟩, ⟨rfl, ⟨rfl, ⟨rfl, ⟨rfl, trivial⟩⟩⟩⟩⟩⟩
theorem e9d_came (n : Nat) (c : Nat) (k : Nat) (ds : List Deep) (h0 : decide ((↑k : Int) < (↑n : Int)) = false) :
    Ran (codeO Tryz.prog E1 (sm0) noRun 100 9 [0, 0, 1, 0, 1, 1, 1] (codeAt Tryz.f9 [0, 0, 1, 0, 1, 1, 1]) (mkFr 44 (t27b n c k)) (mkHp 1 (oR ds)) [.skip 4, .b false] True) (Exit.exit 2) 44 [(0, Value.slice (some ⟨0, 0, none⟩) n c), (5, Value.int .i64 (↑k : Int))] [(0, AObj.ro ds)] 1 :=
  cameF_of (O := (True ∧ decide ((↑k : Int) < (↑n : Int)) = false)) (by kernel_rfl) ⟨trivial, h0⟩
noncomputable def q9 (n c : Nat) (ds : List Deep) : Sm := withL (withL sm0 9 [1, 0, 1, 1] (piece 44 (t27a n (Int.toNat (IntKind.i64.wrap ((n : Int) + 64)) - 0) (c - 2 * 0) c n) (oR ds) 1 .normal (mkFr 44 [(0, .slice (some ⟨0, 0, none⟩) n c)]) (mkHp 1 (oR ds)))) 9 [1, 0, 1, 1, 1] (piece 44 (t27b n c 0) (oR ds) 1 .normal (mkFr 44 []) (mkHp 1 (oR ds)))
theorem c9_came (n : Nat) (c : Nat) (ds : List Deep) (h0 : 0 ≤ IntKind.wrap .i64 ((↑n : Int) + 64)) (h1 : IntKind.wrap .i64 ((↑n : Int) + 64) ≤ (↑(capOf c) : Int)) (h2 : 0 ≤ capOf c) (h3 : 0 ≠ capOf c) :
    RanC (runO Tryz.prog E1 (q9 n c ds) noRun 100 9 [Value.slice (some ⟨0, 0, none⟩) n c] (mkHp 1 (oR ds)) [.skip 5, .sym] True) (.returned (Value.bool true)) [(0, AObj.ro ds)] 1 :=
  cameCF_of (O := (((True ∧ ((0 ≤ IntKind.wrap .i64 ((↑n : Int) + 64) ∧ IntKind.wrap .i64 ((↑n : Int) + 64) ≤ (↑(capOf c) : Int)) ∧ True ∧ 0 ≤ capOf c) ∧ 0 ≠ capOf c) ∧ SelfP 44 (t27a n (Int.toNat (IntKind.wrap .i64 ((↑n : Int) + 64)) - 0) (c - 2 * 0) c n) (oR ds) 1) ∧ SelfP 44 (t27b n c 0) (oR ds) 1)) (by kernel_rfl) ⟨⟨⟨trivial, ⟨⟨⟨h0, h1⟩, ⟨trivial, h2⟩⟩, h3⟩⟩, selfP_true _ _ _ _⟩, selfP_true _ _ _ _⟩
theorem rowT_req {l : List Tx} {k : Nat} (h : k < l.length) : List.take 11 (List.drop (0 + Int.toNat (k : Int) * 16 + 5) (rowT l (l.length + 64))) = rqW l[k].r.h (rowR l[k].r.ops (l[k].r.ops.length + 64)) l[k].r.ops.length := by
  have hg : List.take 16 (List.drop (k * 16) (rowT l (l.length + 64))) = l[k].w := by
    rw [rowT, rows_at (f := cellWT l) (s := 16) (m := l.length + 64) (fun j _ => cellWT_len l j) (by omega)]
    simp only [cellWT, List.getElem?_eq_getElem h]
  rw [Nat.zero_add, Int.toNat_natCast, ← List.drop_drop]
  have e : List.take 11 (List.drop 5 (List.take 16 (List.drop (k * 16) (rowT l (l.length + 64))))) = List.take 11 (List.drop 5 (List.drop (k * 16) (rowT l (l.length + 64)))) := by
    rw [List.drop_take, List.take_take]; rfl
  rw [← e, hg, Tx.w, ← Rq.w_eq]
  show List.take 11 l[k].r.w = l[k].r.w
  rw [List.take_of_length_le (by rw [Rq.w_len]; omega)]
theorem con9 {l : List Tx} (hl : l.length < 1099511627776) (hs : ∀ t ∈ l, t.r.parts < 1099511627776) : ConG Tab Tryz.prog 9 (kn17 l.length (rowT l (l.length + 64))) := by
  have hF : ∀ ts, (∀ p ∈ ts, Bd 1 p.2) → smallN ts = true → Fits 1 ts (oR (rowT l (l.length + 64))) 1 := fun ts h1 h2 => ⟨h2, rfl, h1, by simp [oR, BdO], by decide, by decide⟩
  have hw : IntKind.i64.wrap ((l.length : Int) + 64) = ((l.length + 64 : Nat) : Int) := by
    rw [i64_small (by omega) (by omega)]; omega
  have hw' : (Int.toNat (IntKind.i64.wrap ((l.length : Int) + 64)) - 0) = l.length + 64 := by rw [hw]; omega
  have hcap : capOf (2 * (l.length + 64)) = l.length + 64 := by simp [capOf]
  have hk0 : ∀ k : Nat, 0 + Int.toNat (k : Int) * 16 = k * 16 := by intro k; simp
  unfold kn17
  refine conG_read hP1 (s := q9 l.length (2 * (l.length + 64)) (rowT l (l.length + 64))) (fun pr w0 hG => withL_ok (withL_ok (sm0_ok pr w0) (fn := Tryz.f9) (c := .block 0 (.loop (codeAt Tryz.f9 [0, 0, 1, 0, 1, 1]))) (by kernel_rfl) (by kernel_rfl) (block_end (hF _ (by simp [t27a]) rfl) ?_)) (fn := Tryz.f9) (c := .block 2 (.loop (codeAt Tryz.f9 [0, 0, 1, 0, 1, 1, 1]))) (by kernel_rfl) (by kernel_rfl) (block_end (hF _ (by simp [t27b]) rfl) ?_)) (c9_came l.length (2 * (l.length + 64)) (rowT l (l.length + 64)) ?_ ?_ ?_ ?_) (hF _ (by simp) rfl) (hF _ (by simp) rfl) (by simp) (by simp) (by intro σ; simp [upV]) (by intro σ; simp [upV])
  · rw [hw']
    have hh : Here E1 9 [0, 0, 1, 0, 1, 1] (codeAt Tryz.f9 [0, 0, 1, 0, 1, 1]) := codeAt_here (fn := Tryz.f9) (by kernel_rfl) (by kernel_rfl)
    refine rounds_tri (T := { k : Nat // l.length ≤ k ∧ k ≤ l.length + 64 }) ⟨44, fun t => t27a l.length (l.length + 64) (2 * (l.length + 64) - 2 * 0) (2 * (l.length + 64)) t.1, fun _ => oR (rowT l (l.length + 64)), fun _ => 1, fun t => l.length + 64 - t.1⟩ ?_ ⟨l.length, Nat.le_refl _, by omega⟩
    rintro ⟨k, hk1, hk⟩
    by_cases hlt : k < l.length + 64
    · have hc := e9a_came l.length (l.length + 64) (2 * (l.length + 64) - 2 * 0) (2 * (l.length + 64)) k (rowT l (l.length + 64)) (IntKind.wrap IntKind.i64 (-3000000 - (k : Int))) (by simp; omega) (by omega) (by
        have := rows_get (f := cellWT l) (s := 16) (m := l.length + 64) (fun j _ => cellWT_len l j) hlt (r := 4) (by omega)
        rw [hk0, rowT, show k * 16 + 4 = k * 16 + 4 from rfl, this]
        simp [cellWT, List.getElem?_eq_none hk1, markT', txD]) (by simp)
      rw [i64_succ (by omega)] at hc
      exact on_came hP1 (sm0_ok pr w0) hh hc ⟨k + 1, by omega, by omega⟩ rfl rfl rfl (by simp only; omega) (hF _ (by simp [t27a]) rfl)
    · have hc := cut_came (e9b_came l.length (l.length + 64) (2 * (l.length + 64) - 2 * 0) (2 * (l.length + 64)) k (rowT l (l.length + 64)) (by simp; omega)) (ts' := [(0, .slice (some ⟨0, 0, none⟩) l.length (2 * (l.length + 64)))]) (by simp)
      exact out_came hP1 (sm0_ok pr w0) hh hc (by simp) (by simp) (hF _ (by simp) rfl) ⟨rfl, rfl, rfl⟩
  · have hh : Here E1 9 [0, 0, 1, 0, 1, 1, 1] (codeAt Tryz.f9 [0, 0, 1, 0, 1, 1, 1]) := codeAt_here (fn := Tryz.f9) (by kernel_rfl) (by kernel_rfl)
    refine rounds_tri (T := { k : Nat // k ≤ l.length }) ⟨44, fun t => t27b l.length (2 * (l.length + 64)) t.1, fun _ => oR (rowT l (l.length + 64)), fun _ => 1, fun t => l.length - t.1⟩ ?_ ⟨0, Nat.zero_le _⟩
    rintro ⟨k, hk⟩
    by_cases hlt : k < l.length
    · have hpt := hs l[k] (List.getElem_mem hlt)
      have hop := l[k].r.ops_parts
      have hcell : cellWT l k = l[k].w := by simp only [cellWT, List.getElem?_eq_getElem hlt]
      have hc := e9c_came l.length (2 * (l.length + 64)) k (rowT l (l.length + 64)) l[k].r.h (rowR l[k].r.ops (l[k].r.ops.length + 64)) l[k].r.ops.length (by simp; omega) (by omega) (rowT_req hlt)
      rw [i64_succ (by omega)] at hc
      exact on_keep hP1 (withS_ok (sm0_ok pr w0) (pvR_ok hG (con16s (Rq.small hpt) (con27r _ l[k].r.ops (Nat.le_refl _) (by omega))))) hh hc ⟨k + 1, hlt⟩ (by simp [t27b]) (by simp [oR]) (by simp only; omega) (hF _ (by simp [t27b]) rfl)
    · have hc := cut_came (e9d_came l.length (2 * (l.length + 64)) k (rowT l (l.length + 64)) (by simp; omega)) (ts' := []) (by simp)
      exact out_came hP1 (sm0_ok pr w0) hh hc (by simp) (by simp) (hF _ (by simp) rfl) ⟨rfl, rfl, rfl⟩
  · omega
  · rw [hcap, hw]; omega
  · omega
  · rw [hcap]; omega
end Go.Abs
end
