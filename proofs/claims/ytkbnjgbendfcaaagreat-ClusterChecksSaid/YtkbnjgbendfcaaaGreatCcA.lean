/-
  What the law's functions come to: part A.
-/
import Derived.Test.YtkbnjgbendfcaaaGreatBmC
import Derived.Test.YtkbnjgbendfcaaaGreatProg
section
set_option linter.unusedVariables false
set_option linter.unusedSimpArgs false
set_option linter.unusedSectionVars false
/-
  ClusterChecks: the small loops over numbers.
-/
namespace Go.Abs
open Go.Proofs
noncomputable def E1 := env Tryz.prog
theorem ngT : noGo Tryz.prog = true := by kernel_rfl
theorem mixT : Tryz.prog.follows .mixedOrders = true := by kernel_rfl
theorem hE1 : EnvOk Tryz.prog E1 := env_ok ngT
noncomputable def codeAt (f : Func) (p : List Nat) : Code := ((f.body.bind fun c => sub c p)).getD .skip
theorem here_at {P : Program} {f : Nat} {fn : Func} {p : List Nat} (h1 : (env P).fn f = some fn) (h2 : (fn.body.bind fun c => sub c p).isSome = true) : Here (env P) f p (codeAt fn p) := by
  unfold codeAt
  cases hb : fn.body with
  | none => rw [hb] at h2; simp at h2
  | some b =>
    rw [hb] at h2
    simp only [Option.bind_some] at h2 ⊢
    obtain ⟨d, hd⟩ := Option.isSome_iff_exists.1 h2
    exact ⟨fn, b, h1, hb, by rw [hd]; rfl⟩
def s0 : Sm := { S := fun _ => none, L := fun _ _ => none }
theorem s0_ok {P : Program} {E : Env} (pr : Prot) (w0 : World) : SmOk P E pr w0 s0 := ⟨fun f g h => by simp [s0] at h, fun f p ℓ h => by simp [s0] at h⟩
def no0 : CallF := fun _ _ _ => none
set_option maxRecDepth 100000

section eq
variable (o o' cap cap' es : Nat) (bs : List Int) (vs vs' : List Value)
def ts25 (len : Nat) (k : Nat) : List (Nat × Value) := [(0, .slice (some ⟨0, o, none⟩) len cap), (1, .slice (some ⟨1, o', none⟩) len cap'), (4, .bool false), (5, .int .i64 k)]
def os25 : List (Nat × AObj) := [(0, .cells vs es), (1, .rov vs')]
theorem round25 (len : Nat) (k : Nat) (x : Int) :
    Came (codeO Tryz.prog E1 s0 no0 100 25 [0, 0, 1, 0, 1, 1] (codeAt Tryz.f25 [0, 0, 1, 0, 1, 1]) (mkFr 26 (ts25 o o' cap cap' len k)) (mkHp 2 (os25 es vs vs')) [.skip 4, .b true, .skip 2, .sym, .v (.int .i64 x), .skip 2, .sym, .v (.int .i64 x), .skip 1, .b false] True)
      .normal 26 [(0, .slice (some ⟨0, o, none⟩) len cap), (1, .slice (some ⟨1, o', none⟩) len cap'), (4, .bool false), (5, .int .i64 (IntKind.i64.wrap (k + 1)))] (os25 es vs vs') 2 =
    Said (((((((True ∧ decide ((k : Int) < (len : Int)) = true) ∧ (0 ≤ (k : Int) ∧ (k : Int) < (len : Int))) ∧ vs[o + (k : Int).toNat * 1]? = some (.int .i64 x)) ∧ (0 ≤ (k : Int) ∧ (k : Int) < (len : Int))) ∧ vs'[o' + (k : Int).toNat * 1]? = some (.int .i64 x))) ∧ (!(x == x)) = false) .normal 26 [(0, .slice (some ⟨0, o, none⟩) len cap), (1, .slice (some ⟨1, o', none⟩) len cap'), (4, .bool false), (5, .int .i64 (IntKind.i64.wrap (k + 1)))] (os25 es vs vs') 2 := by kernel_rfl
theorem last25 (len : Nat) (k : Nat) :
    Came (codeO Tryz.prog E1 s0 no0 100 25 [0, 0, 1, 0, 1, 1] (codeAt Tryz.f25 [0, 0, 1, 0, 1, 1]) (mkFr 26 (ts25 o o' cap cap' len k)) (mkHp 2 (os25 es vs vs')) [.skip 4, .b false] True)
      (.exit 0) 26 [(4, .bool false)] (os25 es vs vs') 2 =
    Said (True ∧ decide ((k : Int) < (len : Int)) = false) (.exit 0) 26 [(4, .bool false)] (os25 es vs vs') 2 := by kernel_rfl
variable (hvs : ∀ i b, bs[i]? = some b → vs[o + i]? = some (.int .i64 b)) (hvs' : ∀ i b, bs[i]? = some b → vs'[o' + i]? = some (.int .i64 b)) (hlen : bs.length < 9223372036854775807) (hbd : ∀ v ∈ vs, Bd 2 v)
theorem bo25 (hbd : ∀ v ∈ vs, Bd 2 v) : ∀ p ∈ os25 es vs vs', p.1 < 2 ∧ BdO 2 p.2 := by
  intro p hp
  simp [os25] at hp
  rcases hp with rfl | rfl
  · exact ⟨by simp, hbd⟩
  · exact ⟨by simp, trivial⟩
include hvs hvs' hlen hbd
theorem loop25 (pr : Prot) (w0 : World) : Tri Tryz.prog pr w0 2 (.block 0 (.loop (codeAt Tryz.f25 [0, 0, 1, 0, 1, 1]))) (mkFr 26 (ts25 o o' cap cap' bs.length 0)) (mkHp 2 (os25 es vs vs'))
    fun e f m => e = .normal ∧ f = mkFr 26 [(4, .bool false)] ∧ m = mkHp 2 (os25 es vs vs') := by
  have hh : Here E1 25 [0, 0, 1, 0, 1, 1] (codeAt Tryz.f25 [0, 0, 1, 0, 1, 1]) := here_at (by kernel_rfl) (by kernel_rfl)
  have hbo := bo25 es vs vs' hbd
  refine tri_block (Φ := fun e f m => e = .exit 0 ∧ f = mkFr 26 [(4, .bool false)] ∧ m = mkHp 2 (os25 es vs vs')) ?_ ?_ ?_
  · have := tri_loop (P := Tryz.prog) (pr := pr) (w0 := w0) (T := { k : Nat // k ≤ bs.length }) (fun s => mkFr 26 (ts25 o o' cap cap' bs.length s.1)) (fun _ => mkHp 2 (os25 es vs vs')) (fun s => bs.length - s.1) (N := 2)
      (c := codeAt Tryz.f25 [0, 0, 1, 0, 1, 1]) (Φ := fun e f m => e = .exit 0 ∧ f = mkFr 26 [(4, .bool false)] ∧ m = mkHp 2 (os25 es vs vs')) ?_ ⟨0, Nat.zero_le _⟩
    · simpa using this
    · rintro ⟨k, hk⟩
      by_cases hlt : k < bs.length
      · have hb : bs[k]? = some bs[k] := List.getElem?_eq_getElem hlt
        have hc := came_of (round25 o o' cap cap' es vs vs' bs.length k bs[k]) ⟨⟨⟨⟨⟨⟨trivial, by simp; omega⟩, by omega, by omega⟩, by simpa using hvs k _ hb⟩, by omega, by omega⟩, by simpa using hvs' k _ hb⟩, by simp⟩
        refine (tri_came hE1 rfl mixT (s0_ok pr w0) noRun_ok hh hc (by simp) rfl rfl (by simp) hbo (by decide) (Nat.le_refl _)).to ?_
        rintro e f m ⟨rfl, rfl, rfl⟩
        refine .inl ⟨rfl, ⟨k + 1, hlt⟩, ?_, rfl, by simp; omega⟩
        rw [i64_small (by omega) (by omega)]
        rfl
      · have hk' : k = bs.length := by omega
        have hc := came_of (last25 o o' cap cap' es vs vs' bs.length k) ⟨trivial, by simp; omega⟩
        refine (tri_came hE1 rfl mixT (s0_ok pr w0) noRun_ok hh hc (by simp) rfl rfl (by simp) hbo (by decide) (Nat.le_refl _)).to ?_
        rintro e f m ⟨rfl, rfl, rfl⟩
        exact .inr ⟨by simp, rfl, rfl, rfl⟩
  · rintro f m ⟨_, rfl, rfl⟩; exact ⟨rfl, rfl, rfl⟩
  · rintro e f m hne ⟨rfl, _⟩; exact absurd rfl hne
omit hvs hvs' hlen hbd
def s25 (n : Nat) : Sm := { S := fun _ => none, L := fun f p => bif Nat.beq f 25 then (match p with
    | [1, 0, 1, 1] => some (piece 26 (ts25 o o' cap cap' n 0) (os25 es vs vs') 2 .normal (mkFr 26 [(4, .bool false)]) (mkHp 2 (os25 es vs vs')))
    | _ => none) else none }
theorem run25 (n : Nat) : CameC (runO Tryz.prog E1 (s25 o o' cap cap' es vs vs' n) no0 100 25 [.slice (some ⟨0, o, none⟩) n cap, .slice (some ⟨1, o', none⟩) n cap'] (mkHp 2 (os25 es vs vs')) [.skip 6, .b false] True) (.returned (.bool true)) (os25 es vs vs') 2 =
    SaidC ((True ∧ (!((n : Int) == (n : Int))) = false) ∧ SelfP 26 (ts25 o o' cap cap' n 0) (os25 es vs vs') 2) (.returned (.bool true)) (os25 es vs vs') 2 := by kernel_rfl
include hvs hvs' hlen hbd
theorem local25 : LocalOk Tryz.prog 25 [.slice (some ⟨0, o, none⟩) bs.length cap, .slice (some ⟨1, o', none⟩) bs.length cap'] (mkHp 2 (os25 es vs vs')) (.returned (.bool true)) (mkHp 2 (os25 es vs vs')) := by
  have hbo := bo25 es vs vs' hbd
  refine local_came hE1 rfl mixT (fun pr w0 => ⟨fun f g h => by simp [s25] at h, ?_⟩) (fun pr w0 => noRun_ok) (cameC_of (run25 o o' cap cap' es vs vs' bs.length) ⟨⟨trivial, by simp⟩, selfP_true _ _ _ _⟩) (by simp [mkHp]) rfl hbo (by decide) (Nat.le_refl _) (by intro v hv; cases hv; simp) ⟨_, rfl⟩
  intro f p ℓ hℓ fn c d hf hc hd
  simp only [s25] at hℓ
  cases hb : Nat.beq f 25 with
  | false => simp [hb] at hℓ
  | true =>
    have := beq_yes hb
    subst this
    simp only [hb, cond_true] at hℓ
    split at hℓ
    · simp at hℓ
      subst hℓ
      have h1 : E1.fn 25 = some Tryz.f25 := by kernel_rfl
      rw [h1] at hf; cases hf
      have h2 : sub c [1, 0, 1, 1] = some (.block 0 (.loop (codeAt Tryz.f25 [0, 0, 1, 0, 1, 1]))) := by
        have h3 : Tryz.f25.body.bind (fun c => sub c [1, 0, 1, 1]) = some (.block 0 (.loop (codeAt Tryz.f25 [0, 0, 1, 0, 1, 1]))) := by kernel_rfl
        rw [hc] at h3; exact h3
      rw [h2] at hd; cases hd
      exact piece_ok (by simp) rfl rfl (by simp [ts25]) hbo (by decide) (loop25 o o' cap cap' es bs vs vs' hvs hvs' hlen hbd pr w0)
    · cases hℓ
end eq

/-! SpareInts -/
section spare
variable (cap es : Nat) (vs : List Value)
def mk24 (k : Nat) : Int := IntKind.i64.wrap (-3000000 - (k : Int))
def ts24 (n len : Nat) (c2 : Nat) (k : Nat) : List (Nat × Value) := [(3, .slice (some ⟨0, 0, none⟩) len c2), (4, .int .i64 k)]
def os24 : List (Nat × AObj) := [(0, .cells vs es)]
theorem round24 (n len c2 k : Nat) :
    Came (codeO Tryz.prog E1 s0 no0 100 24 [0, 0, 1, 0, 1, 1] (codeAt Tryz.f24 [0, 0, 1, 0, 1, 1]) (mkFr 26 (ts24 n len c2 k)) (mkHp 1 (os24 es vs)) [.skip 4, .b true, .skip 2, .sym, .v (.int .i64 (mk24 k)), .skip 4, .b false] True)
      .normal 26 [(3, .slice (some ⟨0, 0, none⟩) len c2), (4, .int .i64 (IntKind.i64.wrap (k + 1)))] (os24 es vs) 1 =
    Said ((((True ∧ decide ((k : Int) < (len : Int)) = true) ∧ (0 ≤ (k : Int) ∧ (k : Int) < (len : Int))) ∧ vs[0 + (k : Int).toNat * 1]? = some (.int .i64 (mk24 k))) ∧ (!(mk24 k == IntKind.i64.wrap (-3000000 - (k : Int)))) = false) .normal 26 [(3, .slice (some ⟨0, 0, none⟩) len c2), (4, .int .i64 (IntKind.i64.wrap (k + 1)))] (os24 es vs) 1 := by kernel_rfl
theorem last24 (n len c2 k : Nat) :
    Came (codeO Tryz.prog E1 s0 no0 100 24 [0, 0, 1, 0, 1, 1] (codeAt Tryz.f24 [0, 0, 1, 0, 1, 1]) (mkFr 26 (ts24 n len c2 k)) (mkHp 1 (os24 es vs)) [.skip 4, .b false] True)
      (.exit 0) 26 [] (os24 es vs) 1 =
    Said (True ∧ decide ((k : Int) < (len : Int)) = false) (.exit 0) 26 [] (os24 es vs) 1 := by kernel_rfl
variable (n len : Nat) (hvs : ∀ k, n ≤ k → k < len → vs[k]? = some (.int .i64 (mk24 k))) (hn : n ≤ len) (hlen : len < 9223372036854775807) (hbd : ∀ v ∈ vs, Bd 1 v)
theorem bo24 (hbd : ∀ v ∈ vs, Bd 1 v) : ∀ p ∈ os24 es vs, p.1 < 1 ∧ BdO 1 p.2 := by
  intro p hp
  simp [os24] at hp
  subst hp
  exact ⟨by simp, hbd⟩
include hvs hn hlen hbd
theorem loop24 (c2 : Nat) (pr : Prot) (w0 : World) : Tri Tryz.prog pr w0 1 (.block 0 (.loop (codeAt Tryz.f24 [0, 0, 1, 0, 1, 1]))) (mkFr 26 (ts24 n len c2 n)) (mkHp 1 (os24 es vs))
    fun e f m => e = .normal ∧ f = mkFr 26 [] ∧ m = mkHp 1 (os24 es vs) := by
  have hh : Here E1 24 [0, 0, 1, 0, 1, 1] (codeAt Tryz.f24 [0, 0, 1, 0, 1, 1]) := here_at (by kernel_rfl) (by kernel_rfl)
  have hbo := bo24 es vs hbd
  refine tri_block (Φ := fun e f m => e = .exit 0 ∧ f = mkFr 26 [] ∧ m = mkHp 1 (os24 es vs)) ?_ ?_ ?_
  · have := tri_loop (P := Tryz.prog) (pr := pr) (w0 := w0) (T := { k : Nat // n ≤ k ∧ k ≤ len }) (fun s => mkFr 26 (ts24 n len c2 s.1)) (fun _ => mkHp 1 (os24 es vs)) (fun s => len - s.1) (N := 1)
      (c := codeAt Tryz.f24 [0, 0, 1, 0, 1, 1]) (Φ := fun e f m => e = .exit 0 ∧ f = mkFr 26 [] ∧ m = mkHp 1 (os24 es vs)) ?_ ⟨n, Nat.le_refl _, hn⟩
    · simpa using this
    · rintro ⟨k, hk1, hk⟩
      by_cases hlt : k < len
      · have hc := came_of (round24 es vs n len c2 k) ⟨⟨⟨⟨trivial, by simp; omega⟩, by omega, by omega⟩, by simpa using hvs k hk1 hlt⟩, by simp [mk24]⟩
        refine (tri_came hE1 rfl mixT (s0_ok pr w0) noRun_ok hh hc (by simp) rfl rfl (by simp) hbo (by decide) (Nat.le_refl _)).to ?_
        rintro e f m ⟨rfl, rfl, rfl⟩
        refine .inl ⟨rfl, ⟨k + 1, by omega, hlt⟩, ?_, rfl, by simp; omega⟩
        rw [i64_small (by omega) (by omega)]
        rfl
      · have hc := came_of (last24 es vs n len c2 k) ⟨trivial, by simp; omega⟩
        refine (tri_came hE1 rfl mixT (s0_ok pr w0) noRun_ok hh hc (by simp) rfl rfl (by simp) hbo (by decide) (Nat.le_refl _)).to ?_
        rintro e f m ⟨rfl, rfl, rfl⟩
        exact .inr ⟨by simp, rfl, rfl, rfl⟩
  · rintro f m ⟨_, rfl, rfl⟩; exact ⟨rfl, rfl, rfl⟩
  · rintro e f m hne ⟨rfl, _⟩; exact absurd rfl hne
omit hvs hn hlen hbd
def wide24 (n : Nat) : Nat := (IntKind.i64.wrap ((n : Int) + 64)).toNat - 0
def s24 (n cap : Nat) : Sm := { S := fun _ => none, L := fun f p => bif Nat.beq f 24 then (match p with
    | [1, 0, 1, 1] => some (piece 26 (ts24 n (wide24 n) (cap - 2 * 0) n) (os24 es vs) 1 .normal (mkFr 26 []) (mkHp 1 (os24 es vs)))
    | _ => none) else none }
theorem run24 (n cap : Nat) : CameC (runO Tryz.prog E1 (s24 es vs n cap) no0 100 24 [.slice (some ⟨0, 0, none⟩) n cap] (mkHp 1 (os24 es vs)) [.skip 5, .sym] True) (.returned (.bool true)) (os24 es vs) 1 =
    SaidC ((True ∧ (((0 ≤ IntKind.i64.wrap ((n : Int) + 64) ∧ IntKind.i64.wrap ((n : Int) + 64) ≤ (capOf cap : Int)) ∧ True ∧ 0 ≤ capOf cap) ∧ 0 ≠ capOf cap)) ∧ SelfP 26 (ts24 n (wide24 n) (cap - 2 * 0) n) (os24 es vs) 1) (.returned (.bool true)) (os24 es vs) 1 := by kernel_rfl
theorem local24 {n cap : Nat} (hvs : ∀ k, n ≤ k → k < n + 64 → vs[k]? = some (.int .i64 (mk24 k))) (hlen : n + 64 < 9223372036854775807) (hcap : n + 64 ≤ capOf cap) (hbd : ∀ v ∈ vs, Bd 1 v) :
    LocalOk Tryz.prog 24 [.slice (some ⟨0, 0, none⟩) n cap] (mkHp 1 (os24 es vs)) (.returned (.bool true)) (mkHp 1 (os24 es vs)) := by
  have hbo := bo24 es vs hbd
  have hw : IntKind.i64.wrap ((n : Int) + 64) = ((n + 64 : Nat) : Int) := by
    rw [i64_small (by omega) (by omega)]; omega
  have hwide : wide24 n = n + 64 := by unfold wide24; rw [hw]; omega
  have hO : (True ∧ (((0 ≤ IntKind.i64.wrap ((n : Int) + 64) ∧ IntKind.i64.wrap ((n : Int) + 64) ≤ (capOf cap : Int)) ∧ True ∧ 0 ≤ capOf cap) ∧ 0 ≠ capOf cap)) := by
    rw [hw]; exact ⟨trivial, ⟨⟨by omega, by omega⟩, trivial, by omega⟩, by omega⟩
  refine local_came hE1 rfl mixT (fun pr w0 => ⟨fun f g h => by simp [s24] at h, ?_⟩) (fun pr w0 => noRun_ok) (cameC_of (run24 es vs n cap) ⟨hO, selfP_true _ _ _ _⟩) (by simp [mkHp]) rfl hbo (by decide) (Nat.le_refl _) (by intro v hv; cases hv; simp) ⟨_, rfl⟩
  intro f p ℓ hℓ fn c d hf hc hd
  simp only [s24] at hℓ
  cases hb : Nat.beq f 24 with
  | false => simp [hb] at hℓ
  | true =>
    have := beq_yes hb
    subst this
    simp only [hb, cond_true] at hℓ
    split at hℓ
    · simp at hℓ
      subst hℓ
      have h1 : E1.fn 24 = some Tryz.f24 := by kernel_rfl
      rw [h1] at hf; cases hf
      have h2 : sub c [1, 0, 1, 1] = some (.block 0 (.loop (codeAt Tryz.f24 [0, 0, 1, 0, 1, 1]))) := by
        have h3 : Tryz.f24.body.bind (fun c => sub c [1, 0, 1, 1]) = some (.block 0 (.loop (codeAt Tryz.f24 [0, 0, 1, 0, 1, 1]))) := by kernel_rfl
        rw [hc] at h3; exact h3
      rw [h2] at hd; cases hd
      exact piece_ok (by simp) rfl rfl (by simp [ts24]) hbo (by decide) (loop24 es vs n (wide24 n) (fun k h1 h2 => hvs k h1 (by omega)) (by omega) (by omega) hbd (cap - 2 * 0) pr w0)
    · cases hℓ
end spare

/-! WideInts -/
section wide
variable (o cap : Nat) (vs : List Value)
def cell16 (bs : List Int) (n j : Nat) : Value := .int .i64 (if j < n then bs[j]?.getD 0 else mk24 j)
def row16 (bs : List Int) (n m k : Nat) : List Value := (List.range m).map fun j => if j < k then cell16 bs n j else .int .i64 0
theorem row16_zero (bs : List Int) (n m : Nat) : row16 bs n m 0 = copies [.int .i64 0] m := by
  have : ∀ m, copies [Value.int .i64 0] m = List.replicate m (.int .i64 0) := by
    intro m; induction m with
    | zero => rfl
    | succ m ih => simp [copies, ih, List.replicate_succ]
  rw [this]
  apply List.ext_getElem?
  intro i
  simp [row16, List.getElem?_replicate]
  split <;> simp_all
theorem row16_length (bs : List Int) (n m k : Nat) : (row16 bs n m k).length = m := by simp [row16]
theorem row16_put (bs : List Int) (n m k : Nat) (h : k < m) : putAt (row16 bs n m k) k [cell16 bs n k] = row16 bs n m (k + 1) := by
  have hl := row16_length bs n m k
  apply List.ext_getElem?
  intro i
  simp only [putAt, row16, List.getElem?_append, List.length_take, List.length_map, List.length_range, List.getElem?_take, List.getElem?_map, List.length_cons, List.length_nil, List.getElem?_drop, List.cons_append, List.nil_append]
  rw [Nat.min_eq_left (Nat.le_of_lt h)]
  have hr : (List.range m)[i]? = if i < m then some i else none := by
    split
    · simp [*]
    · simp; omega
  by_cases h1 : i < k
  · simp [h1, hr, Nat.lt_succ_of_lt h1]
    try (split <;> simp [h1, Nat.lt_succ_of_lt h1])
  · simp only [h1, if_false]
    by_cases h2 : i = k
    · subst h2
      simp [h]
    · have h3 : ∃ d, i - k = d + 1 := ⟨i - k - 1, by omega⟩
      obtain ⟨d, hd⟩ := h3
      have h4 : k + 1 + d = i := by omega
      have h5 : ¬ i < k + 1 := by omega
      rw [hd]
      simp [h4, h1, h5, hr]
      try (split <;> simp [h1, h5])
def ts16 (n m : Nat) (k : Nat) : List (Nat × Value) := [(0, .slice (some ⟨0, o, none⟩) n cap), (3, .slice (some ⟨1, 0, none⟩) m (2 * m)), (4, .int .i64 k)]
def os16 (r : List Value) : List (Nat × AObj) := [(0, .rov vs), (1, .cells r 0)]
theorem roundA16 (n m k : Nat) (r : List Value) (x : Int) :
    Came (codeO Tryz.prog E1 s0 no0 100 16 [0, 0, 1, 0, 1, 1] (codeAt Tryz.f16 [0, 0, 1, 0, 1, 1]) (mkFr 35 (ts16 o cap n m k)) (mkHp 2 (os16 vs r)) [.skip 4, .b true, .skip 4, .b true, .skip 4, .sym, .v (.int .i64 x), .sym, .sym] True)
      .normal 35 [(0, .slice (some ⟨0, o, none⟩) n cap), (3, .slice (some ⟨1, 0, none⟩) m (2 * m)), (4, .int .i64 (IntKind.i64.wrap (k + 1)))] (os16 vs (putAt r (0 + (k : Int).toNat * 1) [.int .i64 x])) 2 =
    Said ((((((True ∧ decide ((k : Int) < (m : Int)) = true) ∧ decide ((k : Int) < (n : Int)) = true) ∧ (0 ≤ (k : Int) ∧ (k : Int) < (n : Int))) ∧ vs[o + (k : Int).toNat * 1]? = some (.int .i64 x)) ∧ (0 ≤ (k : Int) ∧ (k : Int) < (m : Int))) ∧ (0 + (k : Int).toNat * 1 + [Value.int .i64 x].length ≤ r.length ∧ [Value.int .i64 x].all one = true))
      .normal 35 [(0, .slice (some ⟨0, o, none⟩) n cap), (3, .slice (some ⟨1, 0, none⟩) m (2 * m)), (4, .int .i64 (IntKind.i64.wrap (k + 1)))] (os16 vs (putAt r (0 + (k : Int).toNat * 1) [.int .i64 x])) 2 := by kernel_rfl
theorem roundB16 (n m k : Nat) (r : List Value) :
    Came (codeO Tryz.prog E1 s0 no0 100 16 [0, 0, 1, 0, 1, 1] (codeAt Tryz.f16 [0, 0, 1, 0, 1, 1]) (mkFr 35 (ts16 o cap n m k)) (mkHp 2 (os16 vs r)) [.skip 4, .b true, .skip 4, .b false, .skip 4, .sym, .sym] True)
      .normal 35 [(0, .slice (some ⟨0, o, none⟩) n cap), (3, .slice (some ⟨1, 0, none⟩) m (2 * m)), (4, .int .i64 (IntKind.i64.wrap (k + 1)))] (os16 vs (putAt r (0 + (k : Int).toNat * 1) [.int .i64 (mk24 k)])) 2 =
    Said ((((True ∧ decide ((k : Int) < (m : Int)) = true) ∧ decide ((k : Int) < (n : Int)) = false) ∧ (0 ≤ (k : Int) ∧ (k : Int) < (m : Int))) ∧ (0 + (k : Int).toNat * 1 + [Value.int .i64 (mk24 k)].length ≤ r.length ∧ [Value.int .i64 (mk24 k)].all one = true))
      .normal 35 [(0, .slice (some ⟨0, o, none⟩) n cap), (3, .slice (some ⟨1, 0, none⟩) m (2 * m)), (4, .int .i64 (IntKind.i64.wrap (k + 1)))] (os16 vs (putAt r (0 + (k : Int).toNat * 1) [.int .i64 (mk24 k)])) 2 := by kernel_rfl
theorem last16 (n m k : Nat) (r : List Value) :
    Came (codeO Tryz.prog E1 s0 no0 100 16 [0, 0, 1, 0, 1, 1] (codeAt Tryz.f16 [0, 0, 1, 0, 1, 1]) (mkFr 35 (ts16 o cap n m k)) (mkHp 2 (os16 vs r)) [.skip 4, .b false] True)
      (.exit 0) 35 [(0, .slice (some ⟨0, o, none⟩) n cap), (3, .slice (some ⟨1, 0, none⟩) m (2 * m))] (os16 vs r) 2 =
    Said (True ∧ decide ((k : Int) < (m : Int)) = false) (.exit 0) 35 [(0, .slice (some ⟨0, o, none⟩) n cap), (3, .slice (some ⟨1, 0, none⟩) m (2 * m))] (os16 vs r) 2 := by kernel_rfl
variable (bs : List Int) (m : Nat) (hvs : ∀ i b, bs[i]? = some b → vs[o + i]? = some (.int .i64 b)) (hn : bs.length ≤ m) (hlen : m < 9223372036854775807)
theorem bo16 (n k : Nat) : ∀ p ∈ os16 vs (row16 bs n m k), p.1 < 2 ∧ BdO 2 p.2 := by
  intro p hp
  simp [os16] at hp
  rcases hp with rfl | rfl
  · exact ⟨by simp, trivial⟩
  · refine ⟨by simp, ?_⟩
    intro v hv
    simp only [row16, List.mem_map] at hv
    obtain ⟨j, _, rfl⟩ := hv
    split <;> simp [cell16]
include hvs hn hlen
theorem loop16 (pr : Prot) (w0 : World) : Tri Tryz.prog pr w0 2 (.block 0 (.loop (codeAt Tryz.f16 [0, 0, 1, 0, 1, 1]))) (mkFr 35 (ts16 o cap bs.length m 0)) (mkHp 2 (os16 vs (row16 bs bs.length m 0)))
    fun e f μ => e = .normal ∧ f = mkFr 35 [(0, .slice (some ⟨0, o, none⟩) bs.length cap), (3, .slice (some ⟨1, 0, none⟩) m (2 * m))] ∧ μ = mkHp 2 (os16 vs (row16 bs bs.length m m)) := by
  have hh : Here E1 16 [0, 0, 1, 0, 1, 1] (codeAt Tryz.f16 [0, 0, 1, 0, 1, 1]) := here_at (by kernel_rfl) (by kernel_rfl)
  refine tri_block (Φ := fun e f μ => e = .exit 0 ∧ f = mkFr 35 [(0, .slice (some ⟨0, o, none⟩) bs.length cap), (3, .slice (some ⟨1, 0, none⟩) m (2 * m))] ∧ μ = mkHp 2 (os16 vs (row16 bs bs.length m m))) ?_ ?_ ?_
  · have := tri_loop (P := Tryz.prog) (pr := pr) (w0 := w0) (T := { k : Nat // k ≤ m }) (fun s => mkFr 35 (ts16 o cap bs.length m s.1)) (fun s => mkHp 2 (os16 vs (row16 bs bs.length m s.1))) (fun s => m - s.1) (N := 2)
      (c := codeAt Tryz.f16 [0, 0, 1, 0, 1, 1]) (Φ := fun e f μ => e = .exit 0 ∧ f = mkFr 35 [(0, .slice (some ⟨0, o, none⟩) bs.length cap), (3, .slice (some ⟨1, 0, none⟩) m (2 * m))] ∧ μ = mkHp 2 (os16 vs (row16 bs bs.length m m))) ?_ ⟨0, Nat.zero_le _⟩
    · simpa using this
    · rintro ⟨k, hk⟩
      have hl := row16_length bs bs.length m k
      by_cases hlt : k < m
      · have hput := row16_put bs bs.length m k hlt
        have hk0 : 0 + (k : Int).toNat * 1 = k := by simp
        by_cases hkn : k < bs.length
        · have hb : bs[k]? = some bs[k] := List.getElem?_eq_getElem hkn
          have hcell : cell16 bs bs.length k = .int .i64 bs[k] := by simp [cell16, hkn]
          have hc := came_of (roundA16 o cap vs bs.length m k (row16 bs bs.length m k) bs[k]) ⟨⟨⟨⟨⟨⟨trivial, by simp; omega⟩, by simp; omega⟩, by omega, by omega⟩, by simpa using hvs k _ hb⟩, by omega, by omega⟩, by rw [hl]; simp; omega, by simp [one]⟩
          rw [hk0, ← hcell, hput] at hc
          refine (tri_came hE1 rfl mixT (s0_ok pr w0) noRun_ok hh hc (by simp) rfl rfl (by simp) (bo16 vs bs m _ _) (by decide) (Nat.le_refl _)).to ?_
          rintro e f μ ⟨rfl, rfl, rfl⟩
          refine .inl ⟨rfl, ⟨k + 1, hlt⟩, ?_, rfl, by simp; omega⟩
          rw [i64_small (by omega) (by omega)]
          rfl
        · have hcell : cell16 bs bs.length k = .int .i64 (mk24 k) := by simp [cell16, hkn]
          have hc := came_of (roundB16 o cap vs bs.length m k (row16 bs bs.length m k)) ⟨⟨⟨⟨trivial, by simp; omega⟩, by simp; omega⟩, by omega, by omega⟩, by rw [hl]; simp; omega, by simp [one]⟩
          rw [hk0, ← hcell, hput] at hc
          refine (tri_came hE1 rfl mixT (s0_ok pr w0) noRun_ok hh hc (by simp) rfl rfl (by simp) (bo16 vs bs m _ _) (by decide) (Nat.le_refl _)).to ?_
          rintro e f μ ⟨rfl, rfl, rfl⟩
          refine .inl ⟨rfl, ⟨k + 1, hlt⟩, ?_, rfl, by simp; omega⟩
          rw [i64_small (by omega) (by omega)]
          rfl
      · have hk' : k = m := by omega
        have hc := came_of (last16 o cap vs bs.length m k (row16 bs bs.length m k)) ⟨trivial, by simp; omega⟩
        refine (tri_came hE1 rfl mixT (s0_ok pr w0) noRun_ok hh hc (by simp) rfl rfl (by simp) (bo16 vs bs m _ _) (by decide) (Nat.le_refl _)).to ?_
        rintro e f μ ⟨rfl, rfl, rfl⟩
        exact .inr ⟨by simp, rfl, rfl, by rw [hk']⟩
  · rintro f m ⟨_, rfl, rfl⟩; exact ⟨rfl, rfl, rfl⟩
  · rintro e f m hne ⟨rfl, _⟩; exact absurd rfl hne
omit hvs hn hlen
def m16 (n : Nat) : Nat := n + 64
def s16 (bs : List Int) (n : Nat) : Sm := { S := fun _ => none, L := fun f p => bif Nat.beq f 16 then (match p with
    | [1, 0, 1, 1] => some (piece 35 (ts16 o cap n (m16 n) 0) (os16 vs (copies [.int .i64 0] (m16 n))) 2 .normal (mkFr 35 [(0, .slice (some ⟨0, o, none⟩) n cap), (3, .slice (some ⟨1, 0, none⟩) (m16 n) (2 * m16 n))]) (mkHp 2 (os16 vs (row16 bs n (m16 n) (m16 n)))))
    | _ => none) else none }
theorem run16 (bs : List Int) (n : Nat) : CameC (runO Tryz.prog E1 (s16 o cap vs bs n) no0 100 16 [.slice (some ⟨0, o, none⟩) n cap] (mkHp 1 [(0, .rov vs)]) [.skip 4, .mk (m16 n), .skip 5, .sym] True) (.returned (.slice (some ⟨1, 0, none⟩) n (2 * m16 n))) (os16 vs (row16 bs n (m16 n) (m16 n))) 2 =
    SaidC (((True ∧ (IntKind.i64.wrap ((n : Int) + 64) = (m16 n : Int) ∧ IntKind.i64.wrap ((n : Int) + 64) = (m16 n : Int) ∧ 8 * m16 n ≤ 281474976710656 ∧ m16 n ≤ 9223372036854775807)) ∧ SelfP 35 (ts16 o cap n (m16 n) 0) (os16 vs (copies [.int .i64 0] (m16 n))) 2) ∧ (((0 ≤ (n : Int) ∧ (n : Int) ≤ (capOf (2 * m16 n) : Int)) ∧ True ∧ 0 ≤ capOf (2 * m16 n)) ∧ 0 ≠ capOf (2 * m16 n))) (.returned (.slice (some ⟨1, 0, none⟩) n (2 * m16 n))) (os16 vs (row16 bs n (m16 n) (m16 n))) 2 := by kernel_rfl
include hvs
theorem local16 (hsmall : 8 * (bs.length + 64) ≤ 281474976710656) :
    LocalOk Tryz.prog 16 [.slice (some ⟨0, o, none⟩) bs.length cap] (mkHp 1 [(0, .rov vs)]) (.returned (.slice (some ⟨1, 0, none⟩) bs.length (2 * m16 bs.length))) (mkHp 2 (os16 vs (row16 bs bs.length (m16 bs.length) (m16 bs.length)))) := by
  have hbo := bo16 vs bs (m16 bs.length) bs.length (m16 bs.length)
  have hbo0 := bo16 vs bs (m16 bs.length) bs.length 0
  rw [row16_zero] at hbo0
  have hw : IntKind.i64.wrap ((bs.length : Int) + 64) = (m16 bs.length : Int) := by
    rw [i64_small (by omega) (by omega)]; simp [m16]
  have hm : m16 bs.length = bs.length + 64 := rfl
  have hcap : capOf (2 * m16 bs.length) = m16 bs.length := by simp [capOf]
  refine local_came hE1 rfl mixT (fun pr w0 => ⟨fun f g h => by simp [s16] at h, ?_⟩) (fun pr w0 => noRun_ok) (cameC_of (run16 o cap vs bs bs.length) ⟨⟨⟨trivial, hw, hw, by omega, by omega⟩, selfP_true _ _ _ _⟩, by rw [hcap]; exact ⟨⟨⟨by omega, by omega⟩, trivial, by omega⟩, by omega⟩⟩) (by simp [mkHp]) rfl hbo (by decide) (by simp [mkHp]) (by intro v hv; cases hv; simp) ⟨_, rfl⟩
  intro f p ℓ hℓ fn c d hf hc hd
  simp only [s16] at hℓ
  cases hb : Nat.beq f 16 with
  | false => simp [hb] at hℓ
  | true =>
    have := beq_yes hb
    subst this
    simp only [hb, cond_true] at hℓ
    split at hℓ
    · simp at hℓ
      subst hℓ
      have h1 : E1.fn 16 = some Tryz.f16 := by kernel_rfl
      rw [h1] at hf; cases hf
      have h2 : sub c [1, 0, 1, 1] = some (.block 0 (.loop (codeAt Tryz.f16 [0, 0, 1, 0, 1, 1]))) := by
        have h3 : Tryz.f16.body.bind (fun c => sub c [1, 0, 1, 1]) = some (.block 0 (.loop (codeAt Tryz.f16 [0, 0, 1, 0, 1, 1]))) := by kernel_rfl
        rw [hc] at h3; exact h3
      rw [h2] at hd; cases hd
      have hl := loop16 o cap vs bs (m16 bs.length) hvs (by omega) (by omega) pr w0
      rw [row16_zero] at hl
      exact piece_ok (by simp) rfl rfl (by simp [ts16]) hbo0 (by decide) hl
    · cases hℓ
end wide

/-! CopyInts -/
section copy
variable (o cap : Nat) (vs : List Value)
def tsA23 (n : Nat) (k : Nat) : List (Nat × Value) := [(0, .slice (some ⟨0, o, none⟩) n cap), (3, .slice none 0 0), (4, .int .i64 k)]
def tsB23 (q n : Nat) (k : Nat) (i : Int) : List (Nat × Value) := [(0, .slice (some ⟨0, o, none⟩) n cap), (3, .slice (some ⟨q, 0, none⟩) k (2 * k + 1)), (4, .int .i64 i)]
def os23 (q : Nat) (r : List Value) : List (Nat × AObj) := [(0, .rov vs), (q, .cells r 1)]
theorem roundA23 (n : Nat) (x : Int) :
    Came (codeO Tryz.prog E1 s0 no0 100 23 [0, 0, 1, 0, 1, 1] (codeAt Tryz.f23 [0, 0, 1, 0, 1, 1]) (mkFr 19 (tsA23 o cap n 0)) (mkHp 1 [(0, .rov vs)]) [.skip 4, .b true, .skip 3, .sym, .v (.int .i64 x), .skip 1, .grow false] True)
      .normal 19 (tsB23 o cap 2 n 1 1) (os23 vs 2 [.int .i64 x]) 3 =
    Said ((((True ∧ decide (((0 : Nat) : Int) < (n : Int)) = true) ∧ (0 ≤ ((0 : Nat) : Int) ∧ ((0 : Nat) : Int) < (n : Int))) ∧ vs[o + ((0 : Nat) : Int).toNat * 1]? = some (.int .i64 x)) ∧ (0 + 1 * 1 ≤ [Value.int .i64 x].length ∧ 0 = 0 ∧ 0 = 0 ∧ 1 ≠ 0 ∧ (0 + 1) * 8 ≤ 140737488355328 ∧ 0 + 1 ≤ 4611686018427387904 ∧ ([] : List Value).length = 0 * 1 ∧ [Value.int .i64 x].length = 1 * 1 ∧ [Value.int .i64 x].all one = true))
      .normal 19 (tsB23 o cap 2 n 1 1) (os23 vs 2 [.int .i64 x]) 3 := by kernel_rfl
theorem roundB23 (n k : Nat) (r : List Value) (x : Int) :
    Came (codeO Tryz.prog E1 s0 no0 100 23 [0, 0, 1, 0, 1, 1] (codeAt Tryz.f23 [0, 0, 1, 0, 1, 1]) (mkFr 19 (tsB23 o cap 1 n k k)) (mkHp 2 (os23 vs 1 r)) [.skip 4, .b true, .skip 3, .sym, .v (.int .i64 x), .skip 1, .grow true] True)
      .normal 19 (tsB23 o cap 3 n (k + 1) (IntKind.i64.wrap (k + 1))) (os23 vs 3 ((r.drop 0).take (k * 1) ++ [.int .i64 x])) 4 =
    Said ((((True ∧ decide ((k : Int) < (n : Int)) = true) ∧ (0 ≤ (k : Int) ∧ (k : Int) < (n : Int))) ∧ vs[o + (k : Int).toNat * 1]? = some (.int .i64 x)) ∧ (0 + 1 * 1 ≤ [Value.int .i64 x].length ∧ 0 + k * 1 ≤ r.length ∧ capOf (2 * k + 1) < k + 1 ∧ (k + 1) * 8 ≤ 140737488355328 ∧ k + 1 ≤ 4611686018427387904 ∧ ((r.drop 0).take (k * 1)).length = k * 1 ∧ [Value.int .i64 x].length = 1 * 1 ∧ [Value.int .i64 x].all one = true ∧ capOpen (2 * k + 1) = true ∧ 1 = 1 ∧ 0 + capOf (2 * k + 1) * 1 = r.length))
      .normal 19 (tsB23 o cap 3 n (k + 1) (IntKind.i64.wrap (k + 1))) (os23 vs 3 ((r.drop 0).take (k * 1) ++ [.int .i64 x])) 4 := by kernel_rfl
theorem lastB23 (n k : Nat) (r : List Value) :
    Came (codeO Tryz.prog E1 s0 no0 100 23 [0, 0, 1, 0, 1, 1] (codeAt Tryz.f23 [0, 0, 1, 0, 1, 1]) (mkFr 19 (tsB23 o cap 1 n k k)) (mkHp 2 (os23 vs 1 r)) [.skip 4, .b false] True)
      (.exit 0) 19 [(3, .slice (some ⟨1, 0, none⟩) k (2 * k + 1))] (os23 vs 1 r) 2 =
    Said (True ∧ decide ((k : Int) < (n : Int)) = false) (.exit 0) 19 [(3, .slice (some ⟨1, 0, none⟩) k (2 * k + 1))] (os23 vs 1 r) 2 := by kernel_rfl
theorem lastA23 (n : Nat) :
    Came (codeO Tryz.prog E1 s0 no0 100 23 [0, 0, 1, 0, 1, 1] (codeAt Tryz.f23 [0, 0, 1, 0, 1, 1]) (mkFr 19 (tsA23 o cap n 0)) (mkHp 1 [(0, .rov vs)]) [.skip 4, .b false] True)
      (.exit 0) 19 [(3, .slice none 0 0)] [(0, .rov vs)] 1 =
    Said (True ∧ decide (((0 : Nat) : Int) < (n : Int)) = false) (.exit 0) 19 [(3, .slice none 0 0)] [(0, .rov vs)] 1 := by kernel_rfl
def ints (bs : List Int) : List Value := bs.map fun b => .int .i64 b
def fr23 (n : Nat) : Nat → Fr
  | 0 => mkFr 19 (tsA23 o cap n 0)
  | k + 1 => mkFr 19 (tsB23 o cap 1 n (k + 1) ((k + 1 : Nat) : Int))
def hp23 (bs : List Int) : Nat → Hp
  | 0 => mkHp 1 [(0, .rov vs)]
  | k + 1 => mkHp 2 (os23 vs 1 (ints (bs.take (k + 1))))
def cp23 : Nat → Value
  | 0 => .slice none 0 0
  | k + 1 => .slice (some ⟨1, 0, none⟩) (k + 1) (2 * (k + 1) + 1)
variable (bs : List Int) (hvs : ∀ i b, bs[i]? = some b → vs[o + i]? = some (.int .i64 b)) (hlen : bs.length < 16777216)
theorem bo23 (r : List Int) : ∀ p ∈ os23 vs 1 (ints r), p.1 < 2 ∧ BdO 2 p.2 := by
  intro p hp
  simp [os23] at hp
  rcases hp with rfl | rfl
  · exact ⟨by simp, trivial⟩
  · refine ⟨by simp, ?_⟩
    intro v hv
    simp only [ints, List.mem_map] at hv
    obtain ⟨j, _, rfl⟩ := hv
    simp
theorem up_ints (σ : Nat → Nat) (r : List Int) : (ints r).map (upV σ) = ints r := by simp [ints, upV]
def to2 (q n : Nat) : Nat := if n = 1 then q else n
include hvs hlen
theorem loop23 (pr : Prot) (w0 : World) : Tri Tryz.prog pr w0 1 (.block 0 (.loop (codeAt Tryz.f23 [0, 0, 1, 0, 1, 1]))) (fr23 o cap bs.length 0) (hp23 vs bs 0)
    fun e f μ => e = .normal ∧ f = mkFr 19 [(3, cp23 bs.length)] ∧ μ = hp23 vs bs bs.length := by
  have hh : Here E1 23 [0, 0, 1, 0, 1, 1] (codeAt Tryz.f23 [0, 0, 1, 0, 1, 1]) := here_at (by kernel_rfl) (by kernel_rfl)
  refine tri_block (Φ := fun e f μ => e = .exit 0 ∧ f = mkFr 19 [(3, cp23 bs.length)] ∧ μ = hp23 vs bs bs.length) ?_ ?_ ?_
  · have := tri_loop (P := Tryz.prog) (pr := pr) (w0 := w0) (T := { k : Nat // k ≤ bs.length }) (fun s => fr23 o cap bs.length s.1) (fun s => hp23 vs bs s.1) (fun s => bs.length - s.1) (N := 1)
      (c := codeAt Tryz.f23 [0, 0, 1, 0, 1, 1]) (Φ := fun e f μ => e = .exit 0 ∧ f = mkFr 19 [(3, cp23 bs.length)] ∧ μ = hp23 vs bs bs.length) ?_ ⟨0, Nat.zero_le _⟩
    · exact this
    · rintro ⟨k, hk⟩
      by_cases hlt : k < bs.length
      · have hb : bs[k]? = some bs[k] := List.getElem?_eq_getElem hlt
        cases k with
        | zero =>
          have hc := came_of (roundA23 o cap vs bs.length bs[0]) ⟨⟨⟨⟨trivial, by simp; omega⟩, by omega, by omega⟩, by simpa using hvs 0 _ hb⟩, by simp, rfl, rfl, by decide, by decide, by decide, rfl, rfl, by simp [one]⟩
          refine (tri_came_via hE1 rfl mixT (s0_ok pr w0) noRun_ok hh hc (to2 2) (ts := tsB23 o cap 1 bs.length 1 1) (os := os23 vs 1 (ints [bs[0]])) (next := 2) (by simp [tsB23, upV, to2]) (by simp [os23, upO, ints, upV, to2]) (by simp [os23, to2]) (by simp) rfl rfl (by simp [tsB23]) (bo23 vs _) (by decide) (by intro n hn; simp [to2]; omega) (by decide)).to ?_
          rintro e f μ ⟨rfl, rfl, rfl⟩
          refine .inl ⟨rfl, ⟨1, hlt⟩, rfl, ?_, by simp; omega⟩
          simp only [hp23]
          congr 2
          congr 1
          cases bs with
          | nil => simp at hlt
          | cons a bs => simp
        | succ k =>
          have hl : (ints (bs.take (k + 1))).length = k + 1 := by simp [ints]; omega
          have hcap : capOf (2 * (k + 1) + 1) = k + 1 := by simp [capOf]; omega
          have hopen : capOpen (2 * (k + 1) + 1) = true := by simp [capOpen]
          have hrow : ((ints (bs.take (k + 1))).drop 0).take ((k + 1) * 1) ++ [Value.int .i64 bs[k + 1]] = ints (bs.take (k + 2)) := by
            rw [List.drop_zero, Nat.mul_one, List.take_of_length_le (by omega), show bs.take (k + 2) = bs.take (k + 1) ++ [bs[k + 1]] from List.take_succ_eq_append_getElem hlt]
            simp only [ints, List.map_append, List.map_cons, List.map_nil]
          have hc := came_of (roundB23 o cap vs bs.length (k + 1) (ints (bs.take (k + 1))) bs[k + 1]) ⟨⟨⟨⟨trivial, by simp; omega⟩, by omega, by omega⟩, by simpa using hvs (k + 1) _ hb⟩, by simp, by omega, by omega, by omega, by omega, by simp [hl], rfl, by simp [one], hopen, rfl, by omega⟩
          rw [hrow, i64_small (by omega) (by omega)] at hc
          refine (tri_came_via hE1 rfl mixT (s0_ok pr w0) noRun_ok hh hc (to2 3) (ts := tsB23 o cap 1 bs.length (k + 2) (((k + 2 : Nat)) : Int)) (os := os23 vs 1 (ints (bs.take (k + 2)))) (next := 2) (by simp [tsB23, upV, to2]; omega) (by simp [os23, upO, up_ints, to2]) (by simp [os23, to2]) (by simp) rfl rfl (by simp [tsB23]) (bo23 vs _) (by decide) (by intro n hn; simp [to2]; omega) (by decide)).to ?_
          rintro e f μ ⟨rfl, rfl, rfl⟩
          exact .inl ⟨rfl, ⟨k + 2, hlt⟩, rfl, rfl, by simp; omega⟩
      · have hk' : k = bs.length := by omega
        cases k with
        | zero =>
          have hc := came_of (lastA23 o cap vs bs.length) ⟨trivial, by rw [← hk']; decide⟩
          refine (tri_came hE1 rfl mixT (s0_ok pr w0) noRun_ok hh hc (by simp) rfl rfl (by simp) (by intro p hp; simp at hp; subst hp; exact ⟨by simp, trivial⟩) (by decide) (Nat.le_refl _)).to ?_
          rintro e f μ ⟨rfl, rfl, rfl⟩
          exact .inr ⟨by simp, rfl, by rw [← hk']; rfl, by rw [← hk']; rfl⟩
        | succ k =>
          have hc := came_of (lastB23 o cap vs bs.length (k + 1) (ints (bs.take (k + 1)))) ⟨trivial, by simp; omega⟩
          refine (tri_came hE1 rfl mixT (s0_ok pr w0) noRun_ok hh hc (by simp) rfl rfl (by simp) (bo23 vs _) (by decide) (by decide)).to ?_
          rintro e f μ ⟨rfl, rfl, rfl⟩
          exact .inr ⟨by simp, rfl, by rw [← hk']; rfl, by rw [← hk']; rfl⟩
  · rintro f m ⟨_, rfl, rfl⟩; exact ⟨rfl, rfl, rfl⟩
  · rintro e f m hne ⟨rfl, _⟩; exact absurd rfl hne
omit hvs hlen
def s23 (n : Nat) (v : Value) (μ1 : Hp) : Sm := { S := fun _ => none, L := fun f p => bif Nat.beq f 23 then (match p with
    | [1, 0, 1, 1] => some (piece 19 (tsA23 o cap n 0) [(0, .rov vs)] 1 .normal (mkFr 19 [(3, v)]) μ1)
    | _ => none) else none }
theorem runA23 (n : Nat) : CameC (runO Tryz.prog E1 (s23 o cap vs n (.slice none 0 0) (mkHp 1 [(0, .rov vs)])) no0 100 23 [.slice (some ⟨0, o, none⟩) n cap] (mkHp 1 [(0, .rov vs)]) [] True) (.returned (.slice none 0 0)) [(0, .rov vs)] 1 =
    SaidC (True ∧ SelfP 19 (tsA23 o cap n 0) [(0, .rov vs)] 1) (.returned (.slice none 0 0)) [(0, .rov vs)] 1 := by kernel_rfl
theorem runB23 (n : Nat) (r : List Value) : CameC (runO Tryz.prog E1 (s23 o cap vs n (.slice (some ⟨1, 0, none⟩) n (2 * n + 1)) (mkHp 2 (os23 vs 1 r))) no0 100 23 [.slice (some ⟨0, o, none⟩) n cap] (mkHp 1 [(0, .rov vs)]) [] True) (.returned (.slice (some ⟨1, 0, none⟩) n (2 * n + 1))) (os23 vs 1 r) 2 =
    SaidC (True ∧ SelfP 19 (tsA23 o cap n 0) [(0, .rov vs)] 1) (.returned (.slice (some ⟨1, 0, none⟩) n (2 * n + 1))) (os23 vs 1 r) 2 := by kernel_rfl
theorem sm23 {n : Nat} {v : Value} {μ1 : Hp} (h : ∀ pr w0, Tri Tryz.prog pr w0 1 (.block 0 (.loop (codeAt Tryz.f23 [0, 0, 1, 0, 1, 1]))) (mkFr 19 (tsA23 o cap n 0)) (mkHp 1 [(0, .rov vs)]) fun e f μ => e = .normal ∧ f = mkFr 19 [(3, v)] ∧ μ = μ1) (pr : Prot) (w0 : World) :
    SmOk Tryz.prog E1 pr w0 (s23 o cap vs n v μ1) := by
  refine ⟨fun f g h => by simp [s23] at h, ?_⟩
  intro f p ℓ hℓ fn c d hf hc hd
  simp only [s23] at hℓ
  cases hb : Nat.beq f 23 with
  | false => simp [hb] at hℓ
  | true =>
    have := beq_yes hb
    subst this
    simp only [hb, cond_true] at hℓ
    split at hℓ
    · simp at hℓ
      subst hℓ
      have h1 : E1.fn 23 = some Tryz.f23 := by kernel_rfl
      rw [h1] at hf; cases hf
      have h2 : sub c [1, 0, 1, 1] = some (.block 0 (.loop (codeAt Tryz.f23 [0, 0, 1, 0, 1, 1]))) := by
        have h3 : Tryz.f23.body.bind (fun c => sub c [1, 0, 1, 1]) = some (.block 0 (.loop (codeAt Tryz.f23 [0, 0, 1, 0, 1, 1]))) := by kernel_rfl
        rw [hc] at h3; exact h3
      rw [h2] at hd; cases hd
      exact piece_ok (by simp) rfl rfl (by simp [tsA23]) (by intro p hp; simp at hp; subst hp; exact ⟨by simp, trivial⟩) (by decide) (h pr w0)
    · cases hℓ
include hvs hlen
theorem local23 : LocalOk Tryz.prog 23 [.slice (some ⟨0, o, none⟩) bs.length cap] (mkHp 1 [(0, .rov vs)]) (.returned (cp23 bs.length)) (hp23 vs bs bs.length) := by
  have hl := loop23 o cap vs bs hvs hlen
  cases hn : bs.length with
  | zero =>
    rw [hn] at hl
    exact local_came hE1 rfl mixT (sm23 o cap vs hl) (fun pr w0 => noRun_ok) (cameC_of (runA23 o cap vs 0) ⟨trivial, selfP_true _ _ _ _⟩) (by simp [mkHp]) rfl (by intro p hp; simp at hp; subst hp; exact ⟨by simp, trivial⟩) (by decide) (Nat.le_refl _) (by intro v hv; cases hv; simp [cp23]) ⟨_, rfl⟩
  | succ k =>
    rw [hn] at hl
    exact local_came hE1 rfl mixT (sm23 o cap vs hl) (fun pr w0 => noRun_ok) (cameC_of (runB23 o cap vs (k + 1) (ints (bs.take (k + 1)))) ⟨trivial, selfP_true _ _ _ _⟩) (by simp [mkHp]) rfl (bo23 vs _) (by decide) (by simp [mkHp]) (by intro v hv; cases hv; simp [cp23]) ⟨_, rfl⟩
end copy
end Go.Abs
end

section
set_option linter.unusedVariables false
set_option linter.unusedSimpArgs false
set_option linter.unusedSectionVars false
/-
  ClusterChecks: contracts of the small loops over numbers, on rows that are only read.
-/
namespace Go.Abs
open Go.Proofs
set_option maxRecDepth 100000
set_option linter.unusedVariables false
theorem hP1 : Okk Tryz.prog E1 := ⟨hE1, rfl, mixT⟩
def tE (o o' cap cap' n k : Nat) : List (Nat × Value) := [(0, .slice (some ⟨0, o, none⟩) n cap), (1, .slice (some ⟨1, o', none⟩) n cap'), (4, .bool false), (5, .int .i64 k)]
def oE (vs vs' : List Value) : List (Nat × AObj) := [(0, .rov vs), (1, .rov vs')]
def tS (o n len c2 k : Nat) : List (Nat × Value) := [(3, .slice (some ⟨0, o, none⟩) len c2), (4, .int .i64 k)]
def oS (vs : List Value) : List (Nat × AObj) := [(0, .rov vs)]
theorem e25_came (o : Nat) (o' : Nat) (cap : Nat) (cap' : Nat) (n : Nat) (k : Nat) (vs : List Value) (vs' : List Value) (x : Int) (h0 : decide ((↑k : Int) < (↑n : Int)) = true) (h1 : 0 ≤ (↑k : Int) ∧ (↑k : Int) < (↑n : Int)) (h2 : vs[o + Int.toNat (↑k : Int) * 1]? = some (Value.int IntKind.i64 x)) (h3 : vs'[o' + Int.toNat (↑k : Int) * 1]? = some (Value.int IntKind.i64 x)) (h4 : (x != x) = false) :
    Ran (codeO Tryz.prog E1 (sm0) noRun 100 25 [0, 0, 1, 0, 1, 1] (codeAt Tryz.f25 [0, 0, 1, 0, 1, 1]) (mkFr 26 (tE o o' cap cap' n k)) (mkHp 2 (oE vs vs')) [.skip 4, .b true, .skip 2, .sym, .v (Value.int IntKind.i64 x), .skip 2, .sym, .v (Value.int IntKind.i64 x), .skip 1, .b false] True) (Exit.normal) 26 [(0, Value.slice (some (Addr.mk 0 o none)) n cap), (1, Value.slice (some (Addr.mk 1 o' none)) n cap'), (4, Value.bool false), (5, Value.int IntKind.i64 (IntKind.wrap IntKind.i64 ((↑k : Int) + 1)))] [(0, AObj.rov vs), (1, AObj.rov vs')] 2 :=
  cameF_of (O := ((((((True ∧ decide ((↑k : Int) < (↑n : Int)) = true) ∧ 0 ≤ (↑k : Int) ∧ (↑k : Int) < (↑n : Int)) ∧ vs[o + Int.toNat (↑k : Int) * 1]? = some (Value.int IntKind.i64 x)) ∧ 0 ≤ (↑k : Int) ∧ (↑k : Int) < (↑n : Int)) ∧ vs'[o' + Int.toNat (↑k : Int) * 1]? = some (Value.int IntKind.i64 x)) ∧ (x != x) = false)) (by kernel_rfl) ⟨⟨⟨⟨⟨⟨trivial, h0⟩, h1⟩, h2⟩, h1⟩, h3⟩, h4⟩
theorem l25_came (o : Nat) (o' : Nat) (cap : Nat) (cap' : Nat) (n : Nat) (k : Nat) (vs : List Value) (vs' : List Value) (h0 : decide ((↑k : Int) < (↑n : Int)) = false) :
    Ran (codeO Tryz.prog E1 (sm0) noRun 100 25 [0, 0, 1, 0, 1, 1] (codeAt Tryz.f25 [0, 0, 1, 0, 1, 1]) (mkFr 26 (tE o o' cap cap' n k)) (mkHp 2 (oE vs vs')) [.skip 4, .b false] True) (Exit.exit 0) 26 [(4, Value.bool false)] [(0, AObj.rov vs), (1, AObj.rov vs')] 2 :=
  cameF_of (O := (True ∧ decide ((↑k : Int) < (↑n : Int)) = false)) (by kernel_rfl) ⟨trivial, h0⟩
theorem e24_came (o : Nat) (n : Nat) (len : Nat) (c2 : Nat) (k : Nat) (vs : List Value) (h0 : decide ((↑k : Int) < (↑len : Int)) = true) (h1 : 0 ≤ (↑k : Int) ∧ (↑k : Int) < (↑len : Int)) (h2 : vs[o + Int.toNat (↑k : Int) * 1]? = some (Value.int IntKind.i64 (mk24 k))) (h3 : (!mk24 k == IntKind.wrap IntKind.i64 (-3000000 - (↑k : Int))) = false) :
    Ran (codeO Tryz.prog E1 (sm0) noRun 100 24 [0, 0, 1, 0, 1, 1] (codeAt Tryz.f24 [0, 0, 1, 0, 1, 1]) (mkFr 26 (tS o n len c2 k)) (mkHp 1 (oS vs)) [.skip 4, .b true, .skip 2, .sym, .v (Value.int IntKind.i64 (mk24 k)), .skip 4, .b false] True) (Exit.normal) 26 [(3, Value.slice (some (Addr.mk 0 o none)) len c2), (4, Value.int IntKind.i64 (IntKind.wrap IntKind.i64 ((↑k : Int) + 1)))] [(0, AObj.rov vs)] 1 :=
  cameF_of (O := ((((True ∧ decide ((↑k : Int) < (↑len : Int)) = true) ∧ 0 ≤ (↑k : Int) ∧ (↑k : Int) < (↑len : Int)) ∧ vs[o + Int.toNat (↑k : Int) * 1]? = some (Value.int IntKind.i64 (mk24 k))) ∧ (!mk24 k == IntKind.wrap IntKind.i64 (-3000000 - (↑k : Int))) = false)) (by kernel_rfl) ⟨⟨⟨⟨trivial, h0⟩, h1⟩, h2⟩, h3⟩
theorem l24_came (o : Nat) (n : Nat) (len : Nat) (c2 : Nat) (k : Nat) (vs : List Value) (h0 : decide ((↑k : Int) < (↑len : Int)) = false) :
    Ran (codeO Tryz.prog E1 (sm0) noRun 100 24 [0, 0, 1, 0, 1, 1] (codeAt Tryz.f24 [0, 0, 1, 0, 1, 1]) (mkFr 26 (tS o n len c2 k)) (mkHp 1 (oS vs)) [.skip 4, .b false] True) (Exit.exit 0) 26 [] [(0, AObj.rov vs)] 1 :=
  cameF_of (O := (True ∧ decide ((↑k : Int) < (↑len : Int)) = false)) (by kernel_rfl) ⟨trivial, h0⟩

def q25 (o o' cap cap' n : Nat) (vs vs' : List Value) : Sm := withL sm0 25 [1, 0, 1, 1] (piece 26 (tE o o' cap cap' n 0) (oE vs vs') 2 .normal (mkFr 26 [(4, .bool false)]) (mkHp 2 (oE vs vs')))
def q24 (o n cap : Nat) (vs : List Value) : Sm := withL sm0 24 [1, 0, 1, 1] (piece 26 (tS (o + 0 * 1) n (Int.toNat (IntKind.i64.wrap ((n : Int) + 64)) - 0) (cap - 2 * 0) n) (oS vs) 1 .normal (mkFr 26 []) (mkHp 1 (oS vs)))
theorem c25_came (o : Nat) (o' : Nat) (cap : Nat) (cap' : Nat) (n : Nat) (vs : List Value) (vs' : List Value) (h0 : ((↑n : Int) != (↑n : Int)) = false) :
    RanC (runO Tryz.prog E1 (q25 o o' cap cap' n vs vs') noRun 100 25 [Value.slice (some (Addr.mk 0 o none)) n cap, Value.slice (some (Addr.mk 1 o' none)) n cap'] (mkHp 2 (oE vs vs')) [.skip 6, .b false] True) (.returned (Value.bool true)) [(0, AObj.rov vs), (1, AObj.rov vs')] 2 :=
  cameCF_of (O := ((True ∧ ((↑n : Int) != (↑n : Int)) = false) ∧ SelfP 26 (tE o o' cap cap' n 0) (oE vs vs') 2)) (by kernel_rfl) ⟨⟨trivial, h0⟩, selfP_true _ _ _ _⟩
theorem c24_came (o : Nat) (n : Nat) (cap : Nat) (vs : List Value) (h0 : 0 ≤ IntKind.wrap IntKind.i64 ((↑n : Int) + 64)) (h1 : IntKind.wrap IntKind.i64 ((↑n : Int) + 64) ≤ (↑(capOf cap) : Int)) (h2 : 0 ≤ capOf cap) (h3 : 0 ≠ capOf cap) :
    RanC (runO Tryz.prog E1 (q24 o n cap vs) noRun 100 24 [Value.slice (some (Addr.mk 0 o none)) n cap] (mkHp 1 (oS vs)) [.skip 5, .sym] True) (.returned (Value.bool true)) [(0, AObj.rov vs)] 1 :=
  cameCF_of (O := ((True ∧ ((0 ≤ IntKind.wrap IntKind.i64 ((↑n : Int) + 64) ∧ IntKind.wrap IntKind.i64 ((↑n : Int) + 64) ≤ (↑(capOf cap) : Int)) ∧ True ∧ 0 ≤ capOf cap) ∧ 0 ≠ capOf cap) ∧ SelfP 26 (tS (o + 0 * 1) n (Int.toNat (IntKind.wrap IntKind.i64 ((↑n : Int) + 64)) - 0) (cap - 2 * 0) n) (oS vs) 1)) (by kernel_rfl) ⟨⟨trivial, ⟨⟨⟨h0, h1⟩, ⟨trivial, h2⟩⟩, h3⟩⟩, selfP_true _ _ _ _⟩
theorem con25 {o o' cap cap' : Nat} {bs : List Int} {vs vs' : List Value} (hvs : ∀ i b, bs[i]? = some b → vs[o + i]? = some (.int .i64 b)) (hvs' : ∀ i b, bs[i]? = some b → vs'[o' + i]? = some (.int .i64 b)) (hlen : bs.length < 9223372036854775807) :
    ConOk Tryz.prog 25 ⟨fun σ => [.slice (some ⟨σ 0, o, none⟩) bs.length cap, .slice (some ⟨σ 1, o', none⟩) bs.length cap'], oE vs vs', 2, fun _ => .bool true, fun _ => []⟩ := by
  have hF : ∀ ts, (∀ p ∈ ts, Bd 2 p.2) → smallN ts = true → Fits 2 ts (oE vs vs') 2 := fun ts h1 h2 => ⟨h2, rfl, h1, by simp [oE, BdO], by decide, by decide⟩
  refine con_read hP1 (s := q25 o o' cap cap' bs.length vs vs') (fun pr w0 => withL_ok (sm0_ok pr w0) (fn := Tryz.f25) (c := .block 0 (.loop (codeAt Tryz.f25 [0, 0, 1, 0, 1, 1]))) (by kernel_rfl) (by kernel_rfl) (block_end (hF _ (by simp [tE]) rfl) ?_)) (c25_came o o' cap cap' bs.length vs vs' (by simp)) (hF _ (by simp) rfl) (hF _ (by simp) rfl) (by simp) (by simp) (by intro σ; simp [upV]) (by intro σ; simp [upV])
  have hh : Here E1 25 [0, 0, 1, 0, 1, 1] (codeAt Tryz.f25 [0, 0, 1, 0, 1, 1]) := codeAt_here (fn := Tryz.f25) (by kernel_rfl) (by kernel_rfl)
  refine rounds_tri (T := { k : Nat // k ≤ bs.length }) ⟨26, fun t => tE o o' cap cap' bs.length t.1, fun _ => oE vs vs', fun _ => 2, fun t => bs.length - t.1⟩ ?_ ⟨0, Nat.zero_le _⟩
  rintro ⟨k, hk⟩
  by_cases hlt : k < bs.length
  · have hb : bs[k]? = some bs[k] := List.getElem?_eq_getElem hlt
    refine on_came hP1 (sm0_ok pr w0) hh (e25_came o o' cap cap' bs.length k vs vs' bs[k] (by simp; omega) (by omega) (by simpa using hvs k _ hb) (by simpa using hvs' k _ hb) (by simp)) ⟨k + 1, hlt⟩ ?_ rfl rfl (by simp; omega) (hF _ (by simp [tE]) rfl)
    rw [i64_small (by omega) (by omega)]; rfl
  · exact out_came hP1 (sm0_ok pr w0) hh (l25_came o o' cap cap' bs.length k vs vs' (by simp; omega)) (by simp) (by simp) (hF _ (by simp) rfl) ⟨rfl, rfl, rfl⟩
theorem con24 {o n cap : Nat} {vs : List Value} (hvs : ∀ k, n ≤ k → k < n + 64 → vs[o + k]? = some (.int .i64 (mk24 k))) (hlen : n + 64 < 9223372036854775807) (hcap : n + 64 ≤ capOf cap) :
    ConOk Tryz.prog 24 ⟨fun σ => [.slice (some ⟨σ 0, o, none⟩) n cap], oS vs, 1, fun _ => .bool true, fun _ => []⟩ := by
  have hF : ∀ ts, (∀ p ∈ ts, Bd 1 p.2) → smallN ts = true → Fits 1 ts (oS vs) 1 := fun ts h1 h2 => ⟨h2, rfl, h1, by simp [oS, BdO], by decide, by decide⟩
  have hw : IntKind.i64.wrap ((n : Int) + 64) = ((n + 64 : Nat) : Int) := by
    rw [i64_small (by omega) (by omega)]; omega
  have hw' : (Int.toNat (IntKind.i64.wrap ((n : Int) + 64)) - 0) = n + 64 := by rw [hw]; omega
  refine con_read hP1 (s := q24 o n cap vs) (fun pr w0 => withL_ok (sm0_ok pr w0) (fn := Tryz.f24) (c := .block 0 (.loop (codeAt Tryz.f24 [0, 0, 1, 0, 1, 1]))) (by kernel_rfl) (by kernel_rfl) (block_end (hF _ (by simp [tS]) rfl) ?_)) (c24_came o n cap vs (by rw [hw]; omega) (by rw [hw]; omega) (by omega) (by omega)) (hF _ (by simp) rfl) (hF _ (by simp) rfl) (by simp) (by simp) (by intro σ; simp [upV]) (by intro σ; simp [upV])
  rw [hw']
  have hh : Here E1 24 [0, 0, 1, 0, 1, 1] (codeAt Tryz.f24 [0, 0, 1, 0, 1, 1]) := codeAt_here (fn := Tryz.f24) (by kernel_rfl) (by kernel_rfl)
  refine rounds_tri (T := { k : Nat // n ≤ k ∧ k ≤ n + 64 }) ⟨26, fun t => tS (o + 0 * 1) n (n + 64) (cap - 2 * 0) t.1, fun _ => oS vs, fun _ => 1, fun t => n + 64 - t.1⟩ ?_ ⟨n, Nat.le_refl _, by omega⟩
  rintro ⟨k, hk1, hk⟩
  by_cases hlt : k < n + 64
  · refine on_came hP1 (sm0_ok pr w0) hh (e24_came (o + 0 * 1) n (n + 64) (cap - 2 * 0) k vs (by simp; omega) (by omega) (by simpa using hvs k hk1 hlt) (by simp [mk24])) ⟨k + 1, by omega, by omega⟩ ?_ rfl rfl (by simp; omega) (hF _ (by simp [tS]) rfl)
    rw [i64_small (by omega) (by omega)]; rfl
  · exact out_came hP1 (sm0_ok pr w0) hh (l24_came (o + 0 * 1) n (n + 64) (cap - 2 * 0) k vs (by simp; omega)) (by simp) (by simp) (hF _ (by simp) rfl) ⟨rfl, rfl, rfl⟩
theorem up_row16 (σ : Nat → Nat) (bs : List Int) (n m k : Nat) : (row16 bs n m k).map (upV σ) = row16 bs n m k := by
  simp only [row16, List.map_map]
  refine List.map_congr_left fun j _ => ?_
  simp only [Function.comp_apply]
  split <;> simp [cell16, upV]
theorem con16 {o cap : Nat} {bs : List Int} {vs : List Value} (hvs : ∀ i b, bs[i]? = some b → vs[o + i]? = some (.int .i64 b)) (hsmall : 8 * (bs.length + 64) ≤ 281474976710656) :
    ConOk Tryz.prog 16 ⟨fun σ => [.slice (some ⟨σ 0, o, none⟩) bs.length cap], oS vs, 1, fun σ => .slice (some ⟨σ 1, 0, none⟩) bs.length (2 * m16 bs.length), fun _ => [.cells (row16 bs bs.length (m16 bs.length) (m16 bs.length)) 0]⟩ :=
  ⟨rfl, by simp [oS], by simp, by simp [hard], (by decide : 1 ≤ limit), by intro σ; simp [upV], by intro σ; simp [upV], by intro σ; simp [upO, up_row16], _, local16 o cap vs bs hvs hsmall, rfl, by
    intro j o' hj
    cases j with
    | zero => simp at hj; subst hj; rw [Hp.get, mkHp, mkT_get _ _ (smallN_spec rfl)]; rfl
    | succ j => simp at hj⟩
end Go.Abs
end

section
set_option linter.unusedVariables false
set_option linter.unusedSimpArgs false
set_option linter.unusedSectionVars false
/-
  ClusterChecks: quorum.New.
-/
namespace Go.Abs
open Go.Proofs
set_option maxRecDepth 100000
set_option linter.unusedVariables false
def t17 (o o' c0 c1 n k : Nat) : List (Nat × Value) := [(0, .slice (some ⟨0, o, none⟩) n c0), (1, .slice (some ⟨1, o', none⟩) n c1), (4, .pointer none), (5, .int .i64 0), (6, .pointer (some ⟨4, 0, none⟩)), (30, .slice (some ⟨0, o, none⟩) n c0), (31, .int .i64 n), (32, .int .i64 k)]
def o17 (vs us A B cs : List Value) : List (Nat × AObj) := [(0, .rov vs), (1, .rov us), (2, .cells A 1), (3, .cells B 1), (4, .cells cs 0)]
theorem e17_0 (o : Nat) (o' : Nat) (c0 : Nat) (c1 : Nat) (n : Nat) (k : Nat) (vs : List Value) (us : List Value) (A : List Value) (B : List Value) (cs : List Value) (w : Int) (g : Int) (a : Int) (cnt : Int) (h0 : decide ((↑k : Int) < (↑n : Int)) = true) (h1 : 0 ≤ (↑k : Int) ∧ (↑k : Int) < (↑n : Int)) (h2 : vs[o + Int.toNat (↑k : Int) * 1]? = some (Value.int IntKind.i64 w)) (h3 : decide (w < 0) = true) :
    Ran (codeO Tryz.prog E1 (sm0) noRun 100 17 [0, 0, 1, 0, 1, 1, 1] (codeAt Tryz.f17 [0, 0, 1, 0, 1, 1, 1]) (mkFr 100 (t17 o o' c0 c1 n k)) (mkHp 5 (o17 vs us A B cs)) [.skip 1, .b true, .skip 1, .sym, .v (Value.int IntKind.i64 w), .skip 5, .b false, .b false, .b true] True) (Exit.ret) 100 [(0, Value.slice (some (Addr.mk 0 o none)) n c0), (1, Value.slice (some (Addr.mk 1 o' none)) n c1), (4, Value.pointer none), (5, Value.int IntKind.i64 200), (6, Value.pointer (some (Addr.mk 4 0 none))), (30, Value.slice (some (Addr.mk 0 o none)) n c0), (31, Value.int IntKind.i64 (↑n : Int)), (32, Value.int IntKind.i64 (↑k : Int))] [(0, AObj.rov vs), (1, AObj.rov us), (2, AObj.cells A 1), (3, AObj.cells B 1), (4, AObj.cells cs 0)] 5 :=
  cameF_of (O := ((((((True ∧ decide ((↑k : Int) < (↑n : Int)) = true) ∧ 0 ≤ (↑k : Int) ∧ (↑k : Int) < (↑n : Int)) ∧ vs[o + Int.toNat (↑k : Int) * 1]? = some (Value.int IntKind.i64 w)) ∧ (decide (w < 0) == false) = false) ∧ (decide (w < 0) == false) = false) ∧ decide (w < 0) = true)) (by kernel_rfl) ⟨⟨⟨⟨⟨⟨trivial, h0⟩, h1⟩, h2⟩, gd h3 rfl⟩, gd h3 rfl⟩, h3⟩

theorem e17_1 (o : Nat) (o' : Nat) (c0 : Nat) (c1 : Nat) (n : Nat) (k : Nat) (vs : List Value) (us : List Value) (A : List Value) (B : List Value) (cs : List Value) (w : Int) (g : Int) (a : Int) (cnt : Int) (h0 : decide ((↑k : Int) < (↑n : Int)) = true) (h1 : 0 ≤ (↑k : Int) ∧ (↑k : Int) < (↑n : Int)) (h2 : vs[o + Int.toNat (↑k : Int) * 1]? = some (Value.int IntKind.i64 w)) (h3 : decide (w < 0) = false) (h4 : decide (w > 100) = true) :
    Ran (codeO Tryz.prog E1 (sm0) noRun 100 17 [0, 0, 1, 0, 1, 1, 1] (codeAt Tryz.f17 [0, 0, 1, 0, 1, 1, 1]) (mkFr 100 (t17 o o' c0 c1 n k)) (mkHp 5 (o17 vs us A B cs)) [.skip 1, .b true, .skip 1, .sym, .v (Value.int IntKind.i64 w), .skip 5, .b true, .skip 1, .b true, .skip 1, .b false, .skip 1, .b false, .b false, .b false, .b false, .b false, .b true] True) (Exit.ret) 100 [(0, Value.slice (some (Addr.mk 0 o none)) n c0), (1, Value.slice (some (Addr.mk 1 o' none)) n c1), (4, Value.pointer none), (5, Value.int IntKind.i64 200), (6, Value.pointer (some (Addr.mk 4 0 none))), (30, Value.slice (some (Addr.mk 0 o none)) n c0), (31, Value.int IntKind.i64 (↑n : Int)), (32, Value.int IntKind.i64 (↑k : Int))] [(0, AObj.rov vs), (1, AObj.rov us), (2, AObj.cells A 1), (3, AObj.cells B 1), (4, AObj.cells cs 0)] 5 :=
  cameF_of (O := ((((((((((((True ∧ decide ((↑k : Int) < (↑n : Int)) = true) ∧ 0 ≤ (↑k : Int) ∧ (↑k : Int) < (↑n : Int)) ∧ vs[o + Int.toNat (↑k : Int) * 1]? = some (Value.int IntKind.i64 w)) ∧ (decide (w < 0) == false) = true) ∧ (decide (w < 0) == false) = true) ∧ decide (w < 0) = false) ∧ (decide (w > 100) == false) = false) ∧ (decide (w > 100) == false) = false) ∧ (decide (w > 100) == false) = false) ∧ (decide (w > 100) == false) = false) ∧ (decide (w > 100) == false) = false) ∧ decide (w > 100) = true)) (by kernel_rfl) ⟨⟨⟨⟨⟨⟨⟨⟨⟨⟨⟨⟨trivial, h0⟩, h1⟩, h2⟩, gd h3 rfl⟩, gd h3 rfl⟩, h3⟩, gd h4 rfl⟩, gd h4 rfl⟩, gd h4 rfl⟩, gd h4 rfl⟩, gd h4 rfl⟩, h4⟩

theorem e17_2 (o : Nat) (o' : Nat) (c0 : Nat) (c1 : Nat) (n : Nat) (k : Nat) (vs : List Value) (us : List Value) (A : List Value) (B : List Value) (cs : List Value) (w : Int) (g : Int) (a : Int) (cnt : Int) (h0 : decide ((↑k : Int) < (↑n : Int)) = true) (h1 : 0 ≤ (↑k : Int) ∧ (↑k : Int) < (↑n : Int)) (h2 : vs[o + Int.toNat (↑k : Int) * 1]? = some (Value.int IntKind.i64 w)) (h3 : decide (w < 0) = false) (h4 : decide (w > 100) = false) (h5 : us[o' + Int.toNat (↑k : Int) * 1]? = some (Value.int IntKind.i64 g)) (h6 : decide (g < 0) = true) :
    Ran (codeO Tryz.prog E1 (sm0) noRun 100 17 [0, 0, 1, 0, 1, 1, 1] (codeAt Tryz.f17 [0, 0, 1, 0, 1, 1, 1]) (mkFr 100 (t17 o o' c0 c1 n k)) (mkHp 5 (o17 vs us A B cs)) [.skip 1, .b true, .skip 1, .sym, .v (Value.int IntKind.i64 w), .skip 5, .b true, .skip 1, .b true, .skip 1, .b false, .skip 1, .b true, .skip 1, .b true, .skip 1, .b true, .sym, .b true, .v (Value.int IntKind.i64 g), .b true, .skip 1, .b false, .skip 1, .b false, .b false, .b false, .b false, .b false, .b true] True) (Exit.ret) 100 [(0, Value.slice (some (Addr.mk 0 o none)) n c0), (1, Value.slice (some (Addr.mk 1 o' none)) n c1), (4, Value.pointer none), (5, Value.int IntKind.i64 200), (6, Value.pointer (some (Addr.mk 4 0 none))), (30, Value.slice (some (Addr.mk 0 o none)) n c0), (31, Value.int IntKind.i64 (↑n : Int)), (32, Value.int IntKind.i64 (↑k : Int))] [(0, AObj.rov vs), (1, AObj.rov us), (2, AObj.cells A 1), (3, AObj.cells B 1), (4, AObj.cells cs 0)] 5 :=
  cameF_of (O := ((((((((((((((((((((True ∧ decide ((↑k : Int) < (↑n : Int)) = true) ∧ 0 ≤ (↑k : Int) ∧ (↑k : Int) < (↑n : Int)) ∧ vs[o + Int.toNat (↑k : Int) * 1]? = some (Value.int IntKind.i64 w)) ∧ (decide (w < 0) == false) = true) ∧ (decide (w < 0) == false) = true) ∧ decide (w < 0) = false) ∧ (decide (w > 100) == false) = true) ∧ (decide (w > 100) == false) = true) ∧ (decide (w > 100) == false) = true) ∧ 0 ≤ (↑k : Int) ∧ (↑k : Int) < (↑n : Int)) ∧ (decide (w > 100) == false) = true) ∧ us[o' + Int.toNat (↑k : Int) * 1]? = some (Value.int IntKind.i64 g)) ∧ (decide (w > 100) == false) = true) ∧ decide (w > 100) = false) ∧ (decide (g < 0) == false) = false) ∧ (decide (g < 0) == false) = false) ∧ (decide (g < 0) == false) = false) ∧ (decide (g < 0) == false) = false) ∧ (decide (g < 0) == false) = false) ∧ decide (g < 0) = true)) (by kernel_rfl) ⟨⟨⟨⟨⟨⟨⟨⟨⟨⟨⟨⟨⟨⟨⟨⟨⟨⟨⟨⟨trivial, h0⟩, h1⟩, h2⟩, gd h3 rfl⟩, gd h3 rfl⟩, h3⟩, gd h4 rfl⟩, gd h4 rfl⟩, gd h4 rfl⟩, h1⟩, gd h4 rfl⟩, h5⟩, gd h4 rfl⟩, h4⟩, gd h6 rfl⟩, gd h6 rfl⟩, gd h6 rfl⟩, gd h6 rfl⟩, gd h6 rfl⟩, h6⟩

theorem e17_3 (o : Nat) (o' : Nat) (c0 : Nat) (c1 : Nat) (n : Nat) (k : Nat) (vs : List Value) (us : List Value) (A : List Value) (B : List Value) (cs : List Value) (w : Int) (g : Int) (a : Int) (cnt : Int) (h0 : decide ((↑k : Int) < (↑n : Int)) = true) (h1 : 0 ≤ (↑k : Int) ∧ (↑k : Int) < (↑n : Int)) (h2 : vs[o + Int.toNat (↑k : Int) * 1]? = some (Value.int IntKind.i64 w)) (h3 : decide (w < 0) = false) (h4 : decide (w > 100) = false) (h5 : us[o' + Int.toNat (↑k : Int) * 1]? = some (Value.int IntKind.i64 g)) (h6 : decide (g < 0) = false) (h7 : decide (g ≥ 7) = true) :
    Ran (codeO Tryz.prog E1 (sm0) noRun 100 17 [0, 0, 1, 0, 1, 1, 1] (codeAt Tryz.f17 [0, 0, 1, 0, 1, 1, 1]) (mkFr 100 (t17 o o' c0 c1 n k)) (mkHp 5 (o17 vs us A B cs)) [.skip 1, .b true, .skip 1, .sym, .v (Value.int IntKind.i64 w), .skip 5, .b true, .skip 1, .b true, .skip 1, .b false, .skip 1, .b true, .skip 1, .b true, .skip 1, .b true, .sym, .b true, .v (Value.int IntKind.i64 g), .b true, .skip 1, .b false, .skip 1, .b true, .skip 1, .b true, .skip 1, .b true, .sym, .b true, .v (Value.int IntKind.i64 g), .b true, .skip 1, .b false, .b true] True) (Exit.ret) 100 [(0, Value.slice (some (Addr.mk 0 o none)) n c0), (1, Value.slice (some (Addr.mk 1 o' none)) n c1), (4, Value.pointer none), (5, Value.int IntKind.i64 200), (6, Value.pointer (some (Addr.mk 4 0 none))), (30, Value.slice (some (Addr.mk 0 o none)) n c0), (31, Value.int IntKind.i64 (↑n : Int)), (32, Value.int IntKind.i64 (↑k : Int))] [(0, AObj.rov vs), (1, AObj.rov us), (2, AObj.cells A 1), (3, AObj.cells B 1), (4, AObj.cells cs 0)] 5 :=
  cameF_of (O := (((((((((((((((((((((((True ∧ decide ((↑k : Int) < (↑n : Int)) = true) ∧ 0 ≤ (↑k : Int) ∧ (↑k : Int) < (↑n : Int)) ∧ vs[o + Int.toNat (↑k : Int) * 1]? = some (Value.int IntKind.i64 w)) ∧ (decide (w < 0) == false) = true) ∧ (decide (w < 0) == false) = true) ∧ decide (w < 0) = false) ∧ (decide (w > 100) == false) = true) ∧ (decide (w > 100) == false) = true) ∧ (decide (w > 100) == false) = true) ∧ 0 ≤ (↑k : Int) ∧ (↑k : Int) < (↑n : Int)) ∧ (decide (w > 100) == false) = true) ∧ us[o' + Int.toNat (↑k : Int) * 1]? = some (Value.int IntKind.i64 g)) ∧ (decide (w > 100) == false) = true) ∧ decide (w > 100) = false) ∧ (decide (g < 0) == false) = true) ∧ (decide (g < 0) == false) = true) ∧ (decide (g < 0) == false) = true) ∧ 0 ≤ (↑k : Int) ∧ (↑k : Int) < (↑n : Int)) ∧ (decide (g < 0) == false) = true) ∧ us[o' + Int.toNat (↑k : Int) * 1]? = some (Value.int IntKind.i64 g)) ∧ (decide (g < 0) == false) = true) ∧ decide (g < 0) = false) ∧ decide (g ≥ 7) = true)) (by kernel_rfl) ⟨⟨⟨⟨⟨⟨⟨⟨⟨⟨⟨⟨⟨⟨⟨⟨⟨⟨⟨⟨⟨⟨⟨trivial, h0⟩, h1⟩, h2⟩, gd h3 rfl⟩, gd h3 rfl⟩, h3⟩, gd h4 rfl⟩, gd h4 rfl⟩, gd h4 rfl⟩, h1⟩, gd h4 rfl⟩, h5⟩, gd h4 rfl⟩, h4⟩, gd h6 rfl⟩, gd h6 rfl⟩, gd h6 rfl⟩, h1⟩, gd h6 rfl⟩, h5⟩, gd h6 rfl⟩, h6⟩, h7⟩

theorem e17_4 (o : Nat) (o' : Nat) (c0 : Nat) (c1 : Nat) (n : Nat) (k : Nat) (vs : List Value) (us : List Value) (A : List Value) (B : List Value) (cs : List Value) (w : Int) (g : Int) (a : Int) (cnt : Int) (h0 : decide ((↑k : Int) < (↑n : Int)) = true) (h1 : 0 ≤ (↑k : Int) ∧ (↑k : Int) < (↑n : Int)) (h2 : vs[o + Int.toNat (↑k : Int) * 1]? = some (Value.int IntKind.i64 w)) (h3 : decide (w < 0) = false) (h4 : decide (w > 100) = false) (h5 : us[o' + Int.toNat (↑k : Int) * 1]? = some (Value.int IntKind.i64 g)) (h6 : decide (g < 0) = false) (h7 : decide (g ≥ 7) = false) (h8 : 0 ≤ g ∧ g < 7) (h9 : cs[2 + Int.toNat g * 1]? = some (Value.int IntKind.i64 a)) (h10 : (a == 0) = true) (h11 : decide (w > 0) = true) (h12 : cs[9]? = some (Value.int IntKind.i64 cnt)) (h13 : 9 + 1 ≤ List.length cs ∧ true = true) (h14 : (putAt cs 9 [Value.int IntKind.i64 (IntKind.wrap IntKind.i64 (cnt + 1))])[2 + Int.toNat g * 1]? = some (Value.int IntKind.i64 a)) (h15 : 2 + Int.toNat g * 1 + 1 ≤ List.length (putAt cs 9 [Value.int IntKind.i64 (IntKind.wrap IntKind.i64 (cnt + 1))]) ∧ true = true) :
    Ran (codeO Tryz.prog E1 (sm0) noRun 100 17 [0, 0, 1, 0, 1, 1, 1] (codeAt Tryz.f17 [0, 0, 1, 0, 1, 1, 1]) (mkFr 100 (t17 o o' c0 c1 n k)) (mkHp 5 (o17 vs us A B cs)) [.skip 1, .b true, .skip 1, .sym, .v (Value.int IntKind.i64 w), .skip 5, .b true, .skip 1, .b true, .skip 1, .b false, .skip 1, .b true, .skip 1, .b true, .skip 1, .b true, .sym, .b true, .v (Value.int IntKind.i64 g), .b true, .skip 1, .b false, .skip 1, .b true, .skip 1, .b true, .skip 1, .b true, .sym, .b true, .v (Value.int IntKind.i64 g), .b true, .skip 1, .b false, .b false, .skip 3, .sym, .v (Value.int IntKind.i64 g), .skip 2, .sym, .v (Value.int IntKind.i64 a), .skip 2, .b true, .skip 1, .b true, .skip 1, .b true, .b true, .skip 3, .v (Value.int IntKind.i64 cnt), .skip 3, .sym, .skip 3, .sym, .v (Value.int IntKind.i64 g), .skip 2, .sym, .v (Value.int IntKind.i64 a), .skip 4, .sym, .sym] True) (Exit.normal) 100 [(0, Value.slice (some (Addr.mk 0 o none)) n c0), (1, Value.slice (some (Addr.mk 1 o' none)) n c1), (4, Value.pointer none), (5, Value.int IntKind.i64 0), (6, Value.pointer (some (Addr.mk 4 0 none))), (30, Value.slice (some (Addr.mk 0 o none)) n c0), (31, Value.int IntKind.i64 (↑n : Int)), (32, Value.int IntKind.i64 (IntKind.wrap IntKind.i64 ((↑k : Int) + 1)))] [(0, AObj.rov vs), (1, AObj.rov us), (2, AObj.cells A 1), (3, AObj.cells B 1), (4, AObj.cells (putAt (putAt cs 9 [Value.int IntKind.i64 (IntKind.wrap IntKind.i64 (cnt + 1))]) (2 + Int.toNat g * 1) [Value.int IntKind.i64 (IntKind.wrap IntKind.i64 (a + w))]) 0)] 5 :=
  cameF_of (O := (((((((((((((((((((((((((((((((((((((((True ∧ decide ((↑k : Int) < (↑n : Int)) = true) ∧ 0 ≤ (↑k : Int) ∧ (↑k : Int) < (↑n : Int)) ∧ vs[o + Int.toNat (↑k : Int) * 1]? = some (Value.int IntKind.i64 w)) ∧ (decide (w < 0) == false) = true) ∧ (decide (w < 0) == false) = true) ∧ decide (w < 0) = false) ∧ (decide (w > 100) == false) = true) ∧ (decide (w > 100) == false) = true) ∧ (decide (w > 100) == false) = true) ∧ 0 ≤ (↑k : Int) ∧ (↑k : Int) < (↑n : Int)) ∧ (decide (w > 100) == false) = true) ∧ us[o' + Int.toNat (↑k : Int) * 1]? = some (Value.int IntKind.i64 g)) ∧ (decide (w > 100) == false) = true) ∧ decide (w > 100) = false) ∧ (decide (g < 0) == false) = true) ∧ (decide (g < 0) == false) = true) ∧ (decide (g < 0) == false) = true) ∧ 0 ≤ (↑k : Int) ∧ (↑k : Int) < (↑n : Int)) ∧ (decide (g < 0) == false) = true) ∧ us[o' + Int.toNat (↑k : Int) * 1]? = some (Value.int IntKind.i64 g)) ∧ (decide (g < 0) == false) = true) ∧ decide (g < 0) = false) ∧ decide (g ≥ 7) = false) ∧ 0 ≤ (↑k : Int) ∧ (↑k : Int) < (↑n : Int)) ∧ us[o' + Int.toNat (↑k : Int) * 1]? = some (Value.int IntKind.i64 g)) ∧ 0 ≤ g ∧ g < 7) ∧ cs[2 + Int.toNat g * 1]? = some (Value.int IntKind.i64 a)) ∧ ((a == 0) == true) = true) ∧ ((a == 0) == true) = true) ∧ (a == 0) = true) ∧ decide (w > 0) = true) ∧ cs[9]? = some (Value.int IntKind.i64 cnt)) ∧ 9 + 1 ≤ List.length cs ∧ true = true) ∧ 0 ≤ (↑k : Int) ∧ (↑k : Int) < (↑n : Int)) ∧ us[o' + Int.toNat (↑k : Int) * 1]? = some (Value.int IntKind.i64 g)) ∧ 0 ≤ g ∧ g < 7) ∧ (putAt cs 9 [Value.int IntKind.i64 (IntKind.wrap IntKind.i64 (cnt + 1))])[2 + Int.toNat g * 1]? = some (Value.int IntKind.i64 a)) ∧ 0 ≤ g ∧ g < 7) ∧ 2 + Int.toNat g * 1 + 1 ≤ List.length (putAt cs 9 [Value.int IntKind.i64 (IntKind.wrap IntKind.i64 (cnt + 1))]) ∧ true = true)) (by kernel_rfl) ⟨⟨⟨⟨⟨⟨⟨⟨⟨⟨⟨⟨⟨⟨⟨⟨⟨⟨⟨⟨⟨⟨⟨⟨⟨⟨⟨⟨⟨⟨⟨⟨⟨⟨⟨⟨⟨⟨⟨trivial, h0⟩, h1⟩, h2⟩, gd h3 rfl⟩, gd h3 rfl⟩, h3⟩, gd h4 rfl⟩, gd h4 rfl⟩, gd h4 rfl⟩, h1⟩, gd h4 rfl⟩, h5⟩, gd h4 rfl⟩, h4⟩, gd h6 rfl⟩, gd h6 rfl⟩, gd h6 rfl⟩, h1⟩, gd h6 rfl⟩, h5⟩, gd h6 rfl⟩, h6⟩, h7⟩, h1⟩, h5⟩, h8⟩, h9⟩, gd h10 rfl⟩, gd h10 rfl⟩, h10⟩, h11⟩, h12⟩, h13⟩, h1⟩, h5⟩, h8⟩, h14⟩, h8⟩, h15⟩

theorem e17_5 (o : Nat) (o' : Nat) (c0 : Nat) (c1 : Nat) (n : Nat) (k : Nat) (vs : List Value) (us : List Value) (A : List Value) (B : List Value) (cs : List Value) (w : Int) (g : Int) (a : Int) (cnt : Int) (h0 : decide ((↑k : Int) < (↑n : Int)) = true) (h1 : 0 ≤ (↑k : Int) ∧ (↑k : Int) < (↑n : Int)) (h2 : vs[o + Int.toNat (↑k : Int) * 1]? = some (Value.int IntKind.i64 w)) (h3 : decide (w < 0) = false) (h4 : decide (w > 100) = false) (h5 : us[o' + Int.toNat (↑k : Int) * 1]? = some (Value.int IntKind.i64 g)) (h6 : decide (g < 0) = false) (h7 : decide (g ≥ 7) = false) (h8 : 0 ≤ g ∧ g < 7) (h9 : cs[2 + Int.toNat g * 1]? = some (Value.int IntKind.i64 a)) (h10 : (a == 0) = true) (h11 : decide (w > 0) = false) (h12 : 2 + Int.toNat g * 1 + 1 ≤ List.length cs ∧ true = true) :
    Ran (codeO Tryz.prog E1 (sm0) noRun 100 17 [0, 0, 1, 0, 1, 1, 1] (codeAt Tryz.f17 [0, 0, 1, 0, 1, 1, 1]) (mkFr 100 (t17 o o' c0 c1 n k)) (mkHp 5 (o17 vs us A B cs)) [.skip 1, .b true, .skip 1, .sym, .v (Value.int IntKind.i64 w), .skip 5, .b true, .skip 1, .b true, .skip 1, .b false, .skip 1, .b true, .skip 1, .b true, .skip 1, .b true, .sym, .b true, .v (Value.int IntKind.i64 g), .b true, .skip 1, .b false, .skip 1, .b true, .skip 1, .b true, .skip 1, .b true, .sym, .b true, .v (Value.int IntKind.i64 g), .b true, .skip 1, .b false, .b false, .skip 3, .sym, .v (Value.int IntKind.i64 g), .skip 2, .sym, .v (Value.int IntKind.i64 a), .skip 2, .b true, .skip 1, .b true, .skip 1, .b true, .b false, .skip 3, .sym, .v (Value.int IntKind.i64 g), .skip 2, .sym, .v (Value.int IntKind.i64 a), .skip 4, .sym, .sym] True) (Exit.normal) 100 [(0, Value.slice (some (Addr.mk 0 o none)) n c0), (1, Value.slice (some (Addr.mk 1 o' none)) n c1), (4, Value.pointer none), (5, Value.int IntKind.i64 0), (6, Value.pointer (some (Addr.mk 4 0 none))), (30, Value.slice (some (Addr.mk 0 o none)) n c0), (31, Value.int IntKind.i64 (↑n : Int)), (32, Value.int IntKind.i64 (IntKind.wrap IntKind.i64 ((↑k : Int) + 1)))] [(0, AObj.rov vs), (1, AObj.rov us), (2, AObj.cells A 1), (3, AObj.cells B 1), (4, AObj.cells (putAt cs (2 + Int.toNat g * 1) [Value.int IntKind.i64 (IntKind.wrap IntKind.i64 (a + w))]) 0)] 5 :=
  cameF_of (O := (((((((((((((((((((((((((((((((((((((True ∧ decide ((↑k : Int) < (↑n : Int)) = true) ∧ 0 ≤ (↑k : Int) ∧ (↑k : Int) < (↑n : Int)) ∧ vs[o + Int.toNat (↑k : Int) * 1]? = some (Value.int IntKind.i64 w)) ∧ (decide (w < 0) == false) = true) ∧ (decide (w < 0) == false) = true) ∧ decide (w < 0) = false) ∧ (decide (w > 100) == false) = true) ∧ (decide (w > 100) == false) = true) ∧ (decide (w > 100) == false) = true) ∧ 0 ≤ (↑k : Int) ∧ (↑k : Int) < (↑n : Int)) ∧ (decide (w > 100) == false) = true) ∧ us[o' + Int.toNat (↑k : Int) * 1]? = some (Value.int IntKind.i64 g)) ∧ (decide (w > 100) == false) = true) ∧ decide (w > 100) = false) ∧ (decide (g < 0) == false) = true) ∧ (decide (g < 0) == false) = true) ∧ (decide (g < 0) == false) = true) ∧ 0 ≤ (↑k : Int) ∧ (↑k : Int) < (↑n : Int)) ∧ (decide (g < 0) == false) = true) ∧ us[o' + Int.toNat (↑k : Int) * 1]? = some (Value.int IntKind.i64 g)) ∧ (decide (g < 0) == false) = true) ∧ decide (g < 0) = false) ∧ decide (g ≥ 7) = false) ∧ 0 ≤ (↑k : Int) ∧ (↑k : Int) < (↑n : Int)) ∧ us[o' + Int.toNat (↑k : Int) * 1]? = some (Value.int IntKind.i64 g)) ∧ 0 ≤ g ∧ g < 7) ∧ cs[2 + Int.toNat g * 1]? = some (Value.int IntKind.i64 a)) ∧ ((a == 0) == true) = true) ∧ ((a == 0) == true) = true) ∧ (a == 0) = true) ∧ decide (w > 0) = false) ∧ 0 ≤ (↑k : Int) ∧ (↑k : Int) < (↑n : Int)) ∧ us[o' + Int.toNat (↑k : Int) * 1]? = some (Value.int IntKind.i64 g)) ∧ 0 ≤ g ∧ g < 7) ∧ cs[2 + Int.toNat g * 1]? = some (Value.int IntKind.i64 a)) ∧ 0 ≤ g ∧ g < 7) ∧ 2 + Int.toNat g * 1 + 1 ≤ List.length cs ∧ true = true)) (by kernel_rfl) ⟨⟨⟨⟨⟨⟨⟨⟨⟨⟨⟨⟨⟨⟨⟨⟨⟨⟨⟨⟨⟨⟨⟨⟨⟨⟨⟨⟨⟨⟨⟨⟨⟨⟨⟨⟨⟨trivial, h0⟩, h1⟩, h2⟩, gd h3 rfl⟩, gd h3 rfl⟩, h3⟩, gd h4 rfl⟩, gd h4 rfl⟩, gd h4 rfl⟩, h1⟩, gd h4 rfl⟩, h5⟩, gd h4 rfl⟩, h4⟩, gd h6 rfl⟩, gd h6 rfl⟩, gd h6 rfl⟩, h1⟩, gd h6 rfl⟩, h5⟩, gd h6 rfl⟩, h6⟩, h7⟩, h1⟩, h5⟩, h8⟩, h9⟩, gd h10 rfl⟩, gd h10 rfl⟩, h10⟩, h11⟩, h1⟩, h5⟩, h8⟩, h9⟩, h8⟩, h12⟩

theorem e17_6 (o : Nat) (o' : Nat) (c0 : Nat) (c1 : Nat) (n : Nat) (k : Nat) (vs : List Value) (us : List Value) (A : List Value) (B : List Value) (cs : List Value) (w : Int) (g : Int) (a : Int) (cnt : Int) (h0 : decide ((↑k : Int) < (↑n : Int)) = true) (h1 : 0 ≤ (↑k : Int) ∧ (↑k : Int) < (↑n : Int)) (h2 : vs[o + Int.toNat (↑k : Int) * 1]? = some (Value.int IntKind.i64 w)) (h3 : decide (w < 0) = false) (h4 : decide (w > 100) = false) (h5 : us[o' + Int.toNat (↑k : Int) * 1]? = some (Value.int IntKind.i64 g)) (h6 : decide (g < 0) = false) (h7 : decide (g ≥ 7) = false) (h8 : 0 ≤ g ∧ g < 7) (h9 : cs[2 + Int.toNat g * 1]? = some (Value.int IntKind.i64 a)) (h10 : (a == 0) = false) (h11 : 2 + Int.toNat g * 1 + 1 ≤ List.length cs ∧ true = true) :
    Ran (codeO Tryz.prog E1 (sm0) noRun 100 17 [0, 0, 1, 0, 1, 1, 1] (codeAt Tryz.f17 [0, 0, 1, 0, 1, 1, 1]) (mkFr 100 (t17 o o' c0 c1 n k)) (mkHp 5 (o17 vs us A B cs)) [.skip 1, .b true, .skip 1, .sym, .v (Value.int IntKind.i64 w), .skip 5, .b true, .skip 1, .b true, .skip 1, .b false, .skip 1, .b true, .skip 1, .b true, .skip 1, .b true, .sym, .b true, .v (Value.int IntKind.i64 g), .b true, .skip 1, .b false, .skip 1, .b true, .skip 1, .b true, .skip 1, .b true, .sym, .b true, .v (Value.int IntKind.i64 g), .b true, .skip 1, .b false, .b false, .skip 3, .sym, .v (Value.int IntKind.i64 g), .skip 2, .sym, .v (Value.int IntKind.i64 a), .skip 2, .b false, .b false, .b false, .skip 4, .sym, .v (Value.int IntKind.i64 g), .skip 2, .sym, .v (Value.int IntKind.i64 a), .skip 4, .sym, .sym] True) (Exit.normal) 100 [(0, Value.slice (some (Addr.mk 0 o none)) n c0), (1, Value.slice (some (Addr.mk 1 o' none)) n c1), (4, Value.pointer none), (5, Value.int IntKind.i64 0), (6, Value.pointer (some (Addr.mk 4 0 none))), (30, Value.slice (some (Addr.mk 0 o none)) n c0), (31, Value.int IntKind.i64 (↑n : Int)), (32, Value.int IntKind.i64 (IntKind.wrap IntKind.i64 ((↑k : Int) + 1)))] [(0, AObj.rov vs), (1, AObj.rov us), (2, AObj.cells A 1), (3, AObj.cells B 1), (4, AObj.cells (putAt cs (2 + Int.toNat g * 1) [Value.int IntKind.i64 (IntKind.wrap IntKind.i64 (a + w))]) 0)] 5 :=
  cameF_of (O := ((((((((((((((((((((((((((((((((((((True ∧ decide ((↑k : Int) < (↑n : Int)) = true) ∧ 0 ≤ (↑k : Int) ∧ (↑k : Int) < (↑n : Int)) ∧ vs[o + Int.toNat (↑k : Int) * 1]? = some (Value.int IntKind.i64 w)) ∧ (decide (w < 0) == false) = true) ∧ (decide (w < 0) == false) = true) ∧ decide (w < 0) = false) ∧ (decide (w > 100) == false) = true) ∧ (decide (w > 100) == false) = true) ∧ (decide (w > 100) == false) = true) ∧ 0 ≤ (↑k : Int) ∧ (↑k : Int) < (↑n : Int)) ∧ (decide (w > 100) == false) = true) ∧ us[o' + Int.toNat (↑k : Int) * 1]? = some (Value.int IntKind.i64 g)) ∧ (decide (w > 100) == false) = true) ∧ decide (w > 100) = false) ∧ (decide (g < 0) == false) = true) ∧ (decide (g < 0) == false) = true) ∧ (decide (g < 0) == false) = true) ∧ 0 ≤ (↑k : Int) ∧ (↑k : Int) < (↑n : Int)) ∧ (decide (g < 0) == false) = true) ∧ us[o' + Int.toNat (↑k : Int) * 1]? = some (Value.int IntKind.i64 g)) ∧ (decide (g < 0) == false) = true) ∧ decide (g < 0) = false) ∧ decide (g ≥ 7) = false) ∧ 0 ≤ (↑k : Int) ∧ (↑k : Int) < (↑n : Int)) ∧ us[o' + Int.toNat (↑k : Int) * 1]? = some (Value.int IntKind.i64 g)) ∧ 0 ≤ g ∧ g < 7) ∧ cs[2 + Int.toNat g * 1]? = some (Value.int IntKind.i64 a)) ∧ ((a == 0) == true) = false) ∧ ((a == 0) == true) = false) ∧ (a == 0) = false) ∧ 0 ≤ (↑k : Int) ∧ (↑k : Int) < (↑n : Int)) ∧ us[o' + Int.toNat (↑k : Int) * 1]? = some (Value.int IntKind.i64 g)) ∧ 0 ≤ g ∧ g < 7) ∧ cs[2 + Int.toNat g * 1]? = some (Value.int IntKind.i64 a)) ∧ 0 ≤ g ∧ g < 7) ∧ 2 + Int.toNat g * 1 + 1 ≤ List.length cs ∧ true = true)) (by kernel_rfl) ⟨⟨⟨⟨⟨⟨⟨⟨⟨⟨⟨⟨⟨⟨⟨⟨⟨⟨⟨⟨⟨⟨⟨⟨⟨⟨⟨⟨⟨⟨⟨⟨⟨⟨⟨⟨trivial, h0⟩, h1⟩, h2⟩, gd h3 rfl⟩, gd h3 rfl⟩, h3⟩, gd h4 rfl⟩, gd h4 rfl⟩, gd h4 rfl⟩, h1⟩, gd h4 rfl⟩, h5⟩, gd h4 rfl⟩, h4⟩, gd h6 rfl⟩, gd h6 rfl⟩, gd h6 rfl⟩, h1⟩, gd h6 rfl⟩, h5⟩, gd h6 rfl⟩, h6⟩, h7⟩, h1⟩, h5⟩, h8⟩, h9⟩, gd h10 rfl⟩, gd h10 rfl⟩, h10⟩, h1⟩, h5⟩, h8⟩, h9⟩, h8⟩, h11⟩

theorem e17_7 (o : Nat) (o' : Nat) (c0 : Nat) (c1 : Nat) (n : Nat) (k : Nat) (vs : List Value) (us : List Value) (A : List Value) (B : List Value) (cs : List Value) (w : Int) (g : Int) (a : Int) (cnt : Int) (h0 : decide ((↑k : Int) < (↑n : Int)) = false) :
    Ran (codeO Tryz.prog E1 (sm0) noRun 100 17 [0, 0, 1, 0, 1, 1, 1] (codeAt Tryz.f17 [0, 0, 1, 0, 1, 1, 1]) (mkFr 100 (t17 o o' c0 c1 n k)) (mkHp 5 (o17 vs us A B cs)) [.skip 1, .b false] True) (Exit.exit 0) 100 [(0, Value.slice (some (Addr.mk 0 o none)) n c0), (1, Value.slice (some (Addr.mk 1 o' none)) n c1), (4, Value.pointer none), (5, Value.int IntKind.i64 0), (6, Value.pointer (some (Addr.mk 4 0 none))), (30, Value.slice (some (Addr.mk 0 o none)) n c0), (31, Value.int IntKind.i64 (↑n : Int)), (32, Value.int IntKind.i64 (↑k : Int))] [(0, AObj.rov vs), (1, AObj.rov us), (2, AObj.cells A 1), (3, AObj.cells B 1), (4, AObj.cells cs 0)] 5 :=
  cameF_of (O := (True ∧ decide ((↑k : Int) < (↑n : Int)) = false)) (by kernel_rfl) ⟨trivial, h0⟩

theorem putAt_one {α : Type} (vs : List α) (o : Nat) (x : α) (h : o < vs.length) : putAt vs o [x] = vs.set o x := by
  simp only [putAt, List.set_eq_take_append_cons_drop, h, if_true, List.length_cons, List.length_nil, List.cons_append, List.nil_append]
theorem getD_some {l : List Int} {i : Nat} (h : i < l.length) : l[i]? = some (l.getD i 0) := by rw [List.getElem?_eq_getElem h]; simp [List.getD_eq_getElem?_getD, List.getElem?_eq_getElem h]
def ok17 (ws gs : List Int) (i : Nat) : Prop := (0 ≤ ws.getD i 0 ∧ ws.getD i 0 ≤ 100) ∧ 0 ≤ gs.getD i 0 ∧ gs.getD i 0 < 7
def st17 (ws gs : List Int) : Nat → List Int × Int
  | 0 => (List.replicate 7 0, 0)
  | k + 1 => ((st17 ws gs k).1.set (gs.getD k 0).toNat ((st17 ws gs k).1.getD (gs.getD k 0).toNat 0 + ws.getD k 0), if (st17 ws gs k).1.getD (gs.getD k 0).toNat 0 = 0 ∧ ws.getD k 0 > 0 then (st17 ws gs k).2 + 1 else (st17 ws gs k).2)
def cs17 (u v : Value) (s : List Int × Int) : List Value := u :: v :: (ints s.1 ++ [.int .i64 s.2])
theorem st17_len (ws gs : List Int) : ∀ k, (st17 ws gs k).1.length = 7
  | 0 => by simp [st17]
  | k + 1 => by simp [st17, st17_len ws gs k]
theorem st17_bd {ws gs : List Int} : ∀ {k : Nat}, (∀ i, i < k → ok17 ws gs i) → (∀ a ∈ (st17 ws gs k).1, 0 ≤ a ∧ a ≤ 100 * k) ∧ 0 ≤ (st17 ws gs k).2 ∧ (st17 ws gs k).2 ≤ k
  | 0, _ => by simp [st17]
  | k + 1, h => by
    obtain ⟨h1, h2, h3⟩ := st17_bd (k := k) (fun i hi => h i (by omega))
    have hk := h k (by omega)
    have hl := st17_len ws gs k
    have hg : (gs.getD k 0).toNat < (st17 ws gs k).1.length := by rw [hl]; have := hk.2; omega
    have ha : (st17 ws gs k).1.getD (gs.getD k 0).toNat 0 ∈ (st17 ws gs k).1 := by
      rw [List.getD_eq_getElem?_getD, List.getElem?_eq_getElem hg]; exact List.getElem_mem hg
    refine ⟨?_, ?_, ?_⟩
    · intro a hm
      simp only [st17] at hm
      rcases List.mem_or_eq_of_mem_set hm with hm | rfl
      · have := h1 a hm; omega
      · have := h1 _ ha; have := hk.1; omega
    · simp only [st17]; split <;> omega
    · simp only [st17]; split <;> omega
theorem st17_some {ws gs : List Int} : ∀ {k : Nat}, (∀ i, i < k → ok17 ws gs i) → ((∃ i, i < k ∧ 0 < ws.getD i 0) ↔ ∃ a ∈ (st17 ws gs k).1, a ≠ 0)
  | 0, _ => by simp [st17]
  | k + 1, h => by
    have hb := (st17_bd (k := k) (fun i hi => h i (by omega))).1
    have ih := st17_some (k := k) (fun i hi => h i (by omega))
    have hk := h k (by omega)
    have hl := st17_len ws gs k
    have hg : (gs.getD k 0).toNat < (st17 ws gs k).1.length := by rw [hl]; have := hk.2; omega
    have hge : (st17 ws gs k).1[(gs.getD k 0).toNat]? = some ((st17 ws gs k).1.getD (gs.getD k 0).toNat 0) := getD_some hg
    have ha : (st17 ws gs k).1.getD (gs.getD k 0).toNat 0 ∈ (st17 ws gs k).1 := List.mem_of_getElem? hge
    have hba := hb _ ha
    simp only [st17]
    constructor
    · rintro ⟨i, hi, hw⟩
      by_cases hik : i = k
      · subst hik
        exact ⟨_, List.mem_set hg _, by omega⟩
      · obtain ⟨a, hm, hne⟩ := ih.1 ⟨i, by omega, hw⟩
        by_cases he : ∃ j, j ≠ (gs.getD k 0).toNat ∧ (st17 ws gs k).1[j]? = some a
        · obtain ⟨j, hj, hja⟩ := he
          exact ⟨a, List.mem_iff_getElem?.2 ⟨j, by rw [List.getElem?_set_ne (Ne.symm hj)]; exact hja⟩, hne⟩
        · obtain ⟨j, hja⟩ := List.mem_iff_getElem?.1 hm
          have hj : j = (gs.getD k 0).toNat := by
            by_cases hj : j = (gs.getD k 0).toNat
            · exact hj
            · exact absurd ⟨j, hj, hja⟩ he
          subst hj
          rw [hge] at hja
          have : (st17 ws gs k).1.getD (gs.getD k 0).toNat 0 = a := Option.some.inj hja
          exact ⟨_, List.mem_set hg _, by have := hk.1; omega⟩
    · rintro ⟨a, hm, hne⟩
      rcases List.mem_or_eq_of_mem_set hm with hm | rfl
      · obtain ⟨i, hi, hw⟩ := ih.2 ⟨a, hm, hne⟩
        exact ⟨i, by omega, hw⟩
      · by_cases hw : 0 < ws.getD k 0
        · exact ⟨k, by omega, hw⟩
        · obtain ⟨i, hi, hw⟩ := ih.2 ⟨_, ha, by have := hk.1; omega⟩
          exact ⟨i, by omega, hw⟩
theorem cs17_length (u v : Value) (s : List Int × Int) : (cs17 u v s).length = s.1.length + 3 := by simp [cs17, ints]
theorem cs17_at (u v : Value) (s : List Int × Int) {g : Nat} (h : g < s.1.length) : (cs17 u v s)[2 + g]? = some (.int .i64 (s.1.getD g 0)) := by
  rw [show 2 + g = g + 1 + 1 from by omega]
  simp only [cs17, List.getElem?_cons_succ]
  rw [List.getElem?_append_left (by simpa [ints] using h)]
  simp [ints, List.getElem?_eq_getElem h]
theorem cs17_cnt (u v : Value) (s : List Int × Int) (h : s.1.length = 7) : (cs17 u v s)[9]? = some (.int .i64 s.2) := by
  simp only [cs17, List.getElem?_cons_succ]
  rw [List.getElem?_append_right (by simp [ints, h])]
  simp [ints, h]
theorem cs17_put (u v : Value) (s : List Int × Int) {g : Nat} (h : g < s.1.length) (x : Int) : putAt (cs17 u v s) (2 + g) [.int .i64 x] = cs17 u v (s.1.set g x, s.2) := by
  rw [putAt_one _ _ _ (by rw [cs17_length]; omega), show 2 + g = g + 1 + 1 from by omega]
  simp only [cs17, List.set_cons_succ]
  rw [List.set_append_left _ _ (by simpa [ints] using h)]
  simp [ints, List.map_set]
theorem cs17_putc (u v : Value) (s : List Int × Int) (h : s.1.length = 7) (x : Int) : putAt (cs17 u v s) 9 [.int .i64 x] = cs17 u v (s.1, x) := by
  rw [putAt_one _ _ _ (by rw [cs17_length]; omega)]
  simp only [cs17, List.set_cons_succ]
  rw [List.set_append_right _ _ (by simp [ints, h])]
  simp [ints, h]
section
variable (o o' c0 c1 : Nat) (vs us A B : List Value) (u v : Value) (ws gs : List Int)
def L17 (j : Nat) : Lp { k : Nat // k ≤ j } := ⟨100, fun t => t17 o o' c0 c1 ws.length t.1, fun t => o17 vs us A B (cs17 u v (st17 ws gs t.1)), fun _ => 5, fun t => j - t.1⟩
variable (hvs : ∀ i b, ws[i]? = some b → vs[o + i]? = some (.int .i64 b)) (hus : ∀ i b, gs[i]? = some b → us[o' + i]? = some (.int .i64 b)) (hl : gs.length = ws.length) (hn : ws.length ≤ 7) (hA : ∀ x ∈ A, Bd 5 x) (hB : ∀ x ∈ B, Bd 5 x) (hu : Bd 5 u) (hv : Bd 5 v)
include hA hB hu hv
theorem fits17 (s : List Int × Int) {ts : List (Nat × Value)} (h1 : ∀ p ∈ ts, Bd 5 p.2) (h2 : smallN ts = true) : Fits 5 ts (o17 vs us A B (cs17 u v s)) 5 := by
  refine ⟨h2, rfl, h1, ?_, by decide, by decide⟩
  intro p hp
  simp [o17] at hp
  rcases hp with rfl | rfl | rfl | rfl | rfl
  · exact ⟨by simp, trivial⟩
  · exact ⟨by simp, trivial⟩
  · exact ⟨by simp, hA⟩
  · exact ⟨by simp, hB⟩
  · refine ⟨by simp, ?_⟩
    intro x hx
    simp only [cs17, List.mem_cons, List.mem_append, ints, List.mem_map, List.not_mem_nil, or_false] at hx
    rcases hx with rfl | rfl | ⟨b, _, rfl⟩ | rfl
    · exact hu
    · exact hv
    · simp
    · simp
include hvs hus hl hn
theorem step17 {j k : Nat} (hj : j ≤ ws.length) (hok : ∀ i, i < j → ok17 ws gs i) (hk : k < j) {Ψ : Post} (pr : Prot) (w0 : World) :
    Tri Tryz.prog pr w0 5 (codeAt Tryz.f17 [0, 0, 1, 0, 1, 1, 1]) ((L17 o o' c0 c1 vs us A B u v ws gs j).fr ⟨k, Nat.le_of_lt hk⟩) ((L17 o o' c0 c1 vs us A B u v ws gs j).hp ⟨k, Nat.le_of_lt hk⟩) (LoopPost (L17 o o' c0 c1 vs us A B u v ws gs j) ⟨k, Nat.le_of_lt hk⟩ Ψ) := by
  have hh : Here E1 17 [0, 0, 1, 0, 1, 1, 1] (codeAt Tryz.f17 [0, 0, 1, 0, 1, 1, 1]) := codeAt_here (fn := Tryz.f17) (by kernel_rfl) (by kernel_rfl)
  obtain ⟨⟨w1, w2⟩, g1, g2⟩ := hok k hk
  have hw : ws[k]? = some (ws.getD k 0) := getD_some (by omega)
  have hg : gs[k]? = some (gs.getD k 0) := getD_some (by omega)
  have hwv := hvs k _ hw
  have hgv := hus k _ hg
  have hs7 := st17_len ws gs k
  obtain ⟨hbd, hc0, hck⟩ := st17_bd (k := k) (fun i hi => hok i (by omega))
  generalize hW : ws.getD k 0 = W at *
  generalize hG : gs.getD k 0 = G at *
  generalize hS : st17 ws gs k = S at *
  have hgl : G.toNat < S.1.length := by rw [hs7]; omega
  have hat := cs17_at u v S hgl
  have ham : S.1.getD G.toNat 0 ∈ S.1 := List.mem_of_getElem? (getD_some hgl)
  have hab := hbd _ ham
  have hlen := cs17_length u v S
  have hcnt := cs17_cnt u v S hs7
  have e0 : decide ((k : Int) < (ws.length : Int)) = true := by simp; omega
  have e1 : 0 ≤ (k : Int) ∧ (k : Int) < (ws.length : Int) := by omega
  have hk1 : IntKind.i64.wrap ((k : Int) + 1) = ((k + 1 : Nat) : Int) := by rw [i64_small (by omega) (by omega)]; rfl
  have hsum : IntKind.i64.wrap (S.1.getD G.toNat 0 + W) = S.1.getD G.toNat 0 + W := i64_small (by omega) (by omega)
  have hnext : st17 ws gs (k + 1) = (S.1.set G.toNat (S.1.getD G.toNat 0 + W), if S.1.getD G.toNat 0 = 0 ∧ W > 0 then S.2 + 1 else S.2) := by simp only [st17, hW, hG, hS]
  cases c5 : S.1.getD G.toNat 0 == 0 with
  | true =>
    cases c6 : decide (W > 0) with
    | true =>
      have hc1 : IntKind.i64.wrap (S.2 + 1) = S.2 + 1 := i64_small (by omega) (by omega)
      have hput := cs17_putc u v S hs7 (S.2 + 1)
      have hat2 := cs17_at u v (S.1, S.2 + 1) hgl
      have hput2 := cs17_put u v (S.1, S.2 + 1) hgl (S.1.getD G.toNat 0 + W)
      have hh1 := e17_4 o o' c0 c1 ws.length k vs us A B (cs17 u v S) W G (S.1.getD G.toNat 0) S.2 e0 e1 (by simpa using hwv) (by simp; omega) (by simp; omega) (by simpa using hgv) (by simp; omega) (by simp; omega) (by omega) (by simpa using hat) c5 c6 hcnt ⟨by omega, rfl⟩ (by rw [hc1, hput]; simpa using hat2) ⟨by rw [hc1, hput, cs17_length]; simp only; omega, rfl⟩
      rw [hc1, hput, Nat.mul_one, hsum, hput2, hk1] at hh1
      refine on_came hP1 (sm0_ok pr w0) hh (L := L17 o o' c0 c1 vs us A B u v ws gs j) (t := ⟨k, Nat.le_of_lt hk⟩) (by simp only [Lp.fr, Lp.hp, L17, hS]; exact hh1) ⟨k + 1, hk⟩ rfl ?_ rfl (by simp only [L17]; omega) (fits17 vs us A B u v hA hB hu hv _ (by simp [t17, L17]) rfl)
      simp only [L17, hnext]
      rw [if_pos ⟨eq_of_beq c5, of_decide_eq_true c6⟩]
      rfl
    | false =>
      have hput2 := cs17_put u v S hgl (S.1.getD G.toNat 0 + W)
      have hh1 := e17_5 o o' c0 c1 ws.length k vs us A B (cs17 u v S) W G (S.1.getD G.toNat 0) S.2 e0 e1 (by simpa using hwv) (by simp; omega) (by simp; omega) (by simpa using hgv) (by simp; omega) (by simp; omega) (by omega) (by simpa using hat) c5 c6 ⟨by omega, rfl⟩
      rw [Nat.mul_one, hsum, hput2, hk1] at hh1
      refine on_came hP1 (sm0_ok pr w0) hh (L := L17 o o' c0 c1 vs us A B u v ws gs j) (t := ⟨k, Nat.le_of_lt hk⟩) (by simp only [Lp.fr, Lp.hp, L17, hS]; exact hh1) ⟨k + 1, hk⟩ rfl ?_ rfl (by simp only [L17]; omega) (fits17 vs us A B u v hA hB hu hv _ (by simp [t17, L17]) rfl)
      simp only [L17, hnext]
      rw [if_neg (fun h => by rw [decide_eq_true h.2] at c6; cases c6)]
      rfl
  | false =>
    have hput2 := cs17_put u v S hgl (S.1.getD G.toNat 0 + W)
    have hh1 := e17_6 o o' c0 c1 ws.length k vs us A B (cs17 u v S) W G (S.1.getD G.toNat 0) S.2 e0 e1 (by simpa using hwv) (by simp; omega) (by simp; omega) (by simpa using hgv) (by simp; omega) (by simp; omega) (by omega) (by simpa using hat) c5 ⟨by omega, rfl⟩
    rw [Nat.mul_one, hsum, hput2, hk1] at hh1
    refine on_came hP1 (sm0_ok pr w0) hh (L := L17 o o' c0 c1 vs us A B u v ws gs j) (t := ⟨k, Nat.le_of_lt hk⟩) (by simp only [Lp.fr, Lp.hp, L17, hS]; exact hh1) ⟨k + 1, hk⟩ rfl ?_ rfl (by simp only [L17]; omega) (fits17 vs us A B u v hA hB hu hv _ (by simp [t17, L17]) rfl)
    simp only [L17, hnext]
    rw [if_neg (fun h => by rw [h.1] at c5; cases c5)]
    rfl
end
end Go.Abs
end

section
set_option linter.unusedVariables false
set_option linter.unusedSimpArgs false
set_option linter.unusedSectionVars false
/-
  ClusterChecks: quorum.New, the function.
-/
namespace Go.Abs
open Go.Proofs
set_option maxRecDepth 100000
set_option maxHeartbeats 4000000
set_option linter.unusedVariables false
def A17 (o n : Nat) (vs : List Value) : List Value := (vs.drop o).take (n * 1)
def u17 (q n : Nat) : Value := .slice (some ⟨q, 0, none⟩) (0 + n) (2 * (0 + n) + 1)
def q17 (o o' c0 c1 n : Nat) (vs us : List Value) (e : Exit) (ts : List (Nat × Value)) (s : List Int × Int) : Sm :=
  withL sm0 17 [1, 0, 1, 1, 1] (piece 100 (t17 o o' c0 c1 n 0) (o17 vs us (A17 o n vs) (A17 o' n us) (cs17 (u17 2 n) (u17 3 n) (List.replicate 7 0, 0))) 5 e (mkFr 100 ts) (mkHp 5 (o17 vs us (A17 o n vs) (A17 o' n us) (cs17 (u17 2 n) (u17 3 n) s))))
theorem c17b_came (o : Nat) (o' : Nat) (c0 : Nat) (c1 : Nat) (n : Nat) (vs : List Value) (us : List Value) (s : List Int × Int) (h0 : decide ((↑n : Int) < 1) = false) (h1 : decide ((↑n : Int) > 7) = false) (h2 : ((↑n : Int) != (↑n : Int)) = false) (h3 : o + n * 1 ≤ List.length vs ∧ 0 = 0 ∧ 0 = 0 ∧ n ≠ 0 ∧ (0 + n) * 8 ≤ 140737488355328 ∧ 0 + n ≤ 4611686018427387904 ∧ 0 = 0 ∧ List.length (List.take (n * 1) (List.drop o vs)) = n * 1 ∧ List.all (List.take (n * 1) (List.drop o vs)) one = true) (h4 : o' + n * 1 ≤ List.length us ∧ 0 = 0 ∧ 0 = 0 ∧ n ≠ 0 ∧ (0 + n) * 8 ≤ 140737488355328 ∧ 0 + n ≤ 4611686018427387904 ∧ 0 = 0 ∧ List.length (List.take (n * 1) (List.drop o' us)) = n * 1 ∧ List.all (List.take (n * 1) (List.drop o' us)) one = true) :
    RanC (runO Tryz.prog E1 (q17 o o' c0 c1 n vs us Exit.ret [(4, Value.pointer none), (5, Value.int IntKind.i64 200)] s) noRun 100 17 [Value.slice (some (Addr.mk 0 o none)) n c0, Value.slice (some (Addr.mk 1 o' none)) n c1] (mkHp 2 (oE vs us)) [.skip 6, .b true, .skip 1, .b true, .skip 1, .b true, .skip 1, .b false, .skip 1, .b true, .skip 1, .b true, .skip 1, .b true, .skip 1, .b true, .skip 1, .b true, .skip 1, .b false, .b false, .skip 1, .grow false, .skip 1, .grow false] True) (.returned (Value.tuple (Array.mk [Value.pointer none, Value.int IntKind.i64 200]))) [(0, AObj.rov vs), (1, AObj.rov us), (2, AObj.cells (A17 o n vs) 1), (3, AObj.cells (A17 o' n us) 1), (4, AObj.cells (cs17 (u17 2 n) (u17 3 n) s) 0)] 5 :=
  cameCF_of (O := ((((((((((((((True ∧ (decide ((↑n : Int) < 1) == false) = true) ∧ (decide ((↑n : Int) < 1) == false) = true) ∧ (decide ((↑n : Int) < 1) == false) = true) ∧ decide ((↑n : Int) < 1) = false) ∧ (decide ((↑n : Int) > 7) == false) = true) ∧ (decide ((↑n : Int) > 7) == false) = true) ∧ (decide ((↑n : Int) > 7) == false) = true) ∧ (decide ((↑n : Int) > 7) == false) = true) ∧ (decide ((↑n : Int) > 7) == false) = true) ∧ decide ((↑n : Int) > 7) = false) ∧ ((↑n : Int) != (↑n : Int)) = false) ∧ o + n * 1 ≤ List.length vs ∧ 0 = 0 ∧ 0 = 0 ∧ n ≠ 0 ∧ (0 + n) * 8 ≤ 140737488355328 ∧ 0 + n ≤ 4611686018427387904 ∧ 0 = 0 ∧ List.length (List.take (n * 1) (List.drop o vs)) = n * 1 ∧ List.all (List.take (n * 1) (List.drop o vs)) one = true) ∧ o' + n * 1 ≤ List.length us ∧ 0 = 0 ∧ 0 = 0 ∧ n ≠ 0 ∧ (0 + n) * 8 ≤ 140737488355328 ∧ 0 + n ≤ 4611686018427387904 ∧ 0 = 0 ∧ List.length (List.take (n * 1) (List.drop o' us)) = n * 1 ∧ List.all (List.take (n * 1) (List.drop o' us)) one = true) ∧ SelfP 100 (t17 o o' c0 c1 n 0) (o17 vs us (A17 o n vs) (A17 o' n us) (cs17 (u17 2 n) (u17 3 n) (List.replicate 7 0, 0))) 5)) (by kernel_rfl) ⟨⟨⟨⟨⟨⟨⟨⟨⟨⟨⟨⟨⟨⟨trivial, gd h0 rfl⟩, gd h0 rfl⟩, gd h0 rfl⟩, h0⟩, gd h1 rfl⟩, gd h1 rfl⟩, gd h1 rfl⟩, gd h1 rfl⟩, gd h1 rfl⟩, h1⟩, h2⟩, h3⟩, h4⟩, selfP_true _ _ _ _⟩
theorem c17e_0 (o : Nat) (o' : Nat) (c0 : Nat) (c1 : Nat) (n : Nat) (vs : List Value) (us : List Value) (a0 : Int) (a1 : Int) (a2 : Int) (a3 : Int) (a4 : Int) (a5 : Int) (a6 : Int) (c : Int) (h0 : decide ((↑n : Int) < 1) = false) (h1 : decide ((↑n : Int) > 7) = false) (h2 : ((↑n : Int) != (↑n : Int)) = false) (h3 : o + n * 1 ≤ List.length vs ∧ 0 = 0 ∧ 0 = 0 ∧ n ≠ 0 ∧ (0 + n) * 8 ≤ 140737488355328 ∧ 0 + n ≤ 4611686018427387904 ∧ 0 = 0 ∧ List.length (List.take (n * 1) (List.drop o vs)) = n * 1 ∧ List.all (List.take (n * 1) (List.drop o vs)) one = true) (h4 : o' + n * 1 ≤ List.length us ∧ 0 = 0 ∧ 0 = 0 ∧ n ≠ 0 ∧ (0 + n) * 8 ≤ 140737488355328 ∧ 0 + n ≤ 4611686018427387904 ∧ 0 = 0 ∧ List.length (List.take (n * 1) (List.drop o' us)) = n * 1 ∧ List.all (List.take (n * 1) (List.drop o' us)) one = true) (h5 : (a0 == 0 && (a1 == 0 && (a2 == 0 && (a3 == 0 && (a4 == 0 && (a5 == 0 && (a6 == 0 && true))))))) = true) :
    RanC (runO Tryz.prog E1 (q17 o o' c0 c1 n vs us Exit.normal [(4, Value.pointer none), (5, Value.int IntKind.i64 0), (6, Value.pointer (some (Addr.mk 4 0 none)))] ([a0, a1, a2, a3, a4, a5, a6], c)) noRun 100 17 [Value.slice (some (Addr.mk 0 o none)) n c0, Value.slice (some (Addr.mk 1 o' none)) n c1] (mkHp 2 (oE vs us)) [.skip 6, .b true, .skip 1, .b true, .skip 1, .b true, .skip 1, .b false, .skip 1, .b true, .skip 1, .b true, .skip 1, .b true, .skip 1, .b true, .skip 1, .b true, .skip 1, .b false, .b false, .skip 1, .grow false, .skip 1, .grow false, .skip 12, .b true] True) (.returned (Value.tuple (Array.mk [Value.pointer none, Value.int IntKind.i64 200]))) [(0, AObj.rov vs), (1, AObj.rov us), (2, AObj.cells (A17 o n vs) 1), (3, AObj.cells (A17 o' n us) 1), (4, AObj.cells [Value.slice (some (Addr.mk 2 0 none)) (0 + n) (2 * (0 + n) + 1), Value.slice (some (Addr.mk 3 0 none)) (0 + n) (2 * (0 + n) + 1), Value.int IntKind.i64 a0, Value.int IntKind.i64 a1, Value.int IntKind.i64 a2, Value.int IntKind.i64 a3, Value.int IntKind.i64 a4, Value.int IntKind.i64 a5, Value.int IntKind.i64 a6, Value.int IntKind.i64 c] 0)] 5 :=
  cameCF_of (O := (((((((((((((((True ∧ (decide ((↑n : Int) < 1) == false) = true) ∧ (decide ((↑n : Int) < 1) == false) = true) ∧ (decide ((↑n : Int) < 1) == false) = true) ∧ decide ((↑n : Int) < 1) = false) ∧ (decide ((↑n : Int) > 7) == false) = true) ∧ (decide ((↑n : Int) > 7) == false) = true) ∧ (decide ((↑n : Int) > 7) == false) = true) ∧ (decide ((↑n : Int) > 7) == false) = true) ∧ (decide ((↑n : Int) > 7) == false) = true) ∧ decide ((↑n : Int) > 7) = false) ∧ ((↑n : Int) != (↑n : Int)) = false) ∧ o + n * 1 ≤ List.length vs ∧ 0 = 0 ∧ 0 = 0 ∧ n ≠ 0 ∧ (0 + n) * 8 ≤ 140737488355328 ∧ 0 + n ≤ 4611686018427387904 ∧ 0 = 0 ∧ List.length (List.take (n * 1) (List.drop o vs)) = n * 1 ∧ List.all (List.take (n * 1) (List.drop o vs)) one = true) ∧ o' + n * 1 ≤ List.length us ∧ 0 = 0 ∧ 0 = 0 ∧ n ≠ 0 ∧ (0 + n) * 8 ≤ 140737488355328 ∧ 0 + n ≤ 4611686018427387904 ∧ 0 = 0 ∧ List.length (List.take (n * 1) (List.drop o' us)) = n * 1 ∧ List.all (List.take (n * 1) (List.drop o' us)) one = true) ∧ SelfP 100 (t17 o o' c0 c1 n 0) (o17 vs us (A17 o n vs) (A17 o' n us) (cs17 (u17 2 n) (u17 3 n) (List.replicate 7 0, 0))) 5) ∧ (a0 == 0 && (a1 == 0 && (a2 == 0 && (a3 == 0 && (a4 == 0 && (a5 == 0 && (a6 == 0 && true))))))) = true)) (by kernel_rfl) ⟨⟨⟨⟨⟨⟨⟨⟨⟨⟨⟨⟨⟨⟨⟨trivial, gd h0 rfl⟩, gd h0 rfl⟩, gd h0 rfl⟩, h0⟩, gd h1 rfl⟩, gd h1 rfl⟩, gd h1 rfl⟩, gd h1 rfl⟩, gd h1 rfl⟩, h1⟩, h2⟩, h3⟩, h4⟩, selfP_true _ _ _ _⟩, h5⟩

theorem c17e_1 (o : Nat) (o' : Nat) (c0 : Nat) (c1 : Nat) (n : Nat) (vs : List Value) (us : List Value) (a0 : Int) (a1 : Int) (a2 : Int) (a3 : Int) (a4 : Int) (a5 : Int) (a6 : Int) (c : Int) (h0 : decide ((↑n : Int) < 1) = false) (h1 : decide ((↑n : Int) > 7) = false) (h2 : ((↑n : Int) != (↑n : Int)) = false) (h3 : o + n * 1 ≤ List.length vs ∧ 0 = 0 ∧ 0 = 0 ∧ n ≠ 0 ∧ (0 + n) * 8 ≤ 140737488355328 ∧ 0 + n ≤ 4611686018427387904 ∧ 0 = 0 ∧ List.length (List.take (n * 1) (List.drop o vs)) = n * 1 ∧ List.all (List.take (n * 1) (List.drop o vs)) one = true) (h4 : o' + n * 1 ≤ List.length us ∧ 0 = 0 ∧ 0 = 0 ∧ n ≠ 0 ∧ (0 + n) * 8 ≤ 140737488355328 ∧ 0 + n ≤ 4611686018427387904 ∧ 0 = 0 ∧ List.length (List.take (n * 1) (List.drop o' us)) = n * 1 ∧ List.all (List.take (n * 1) (List.drop o' us)) one = true) (h5 : (a0 == 0 && (a1 == 0 && (a2 == 0 && (a3 == 0 && (a4 == 0 && (a5 == 0 && (a6 == 0 && true))))))) = false) :
    RanC (runO Tryz.prog E1 (q17 o o' c0 c1 n vs us Exit.normal [(4, Value.pointer none), (5, Value.int IntKind.i64 0), (6, Value.pointer (some (Addr.mk 4 0 none)))] ([a0, a1, a2, a3, a4, a5, a6], c)) noRun 100 17 [Value.slice (some (Addr.mk 0 o none)) n c0, Value.slice (some (Addr.mk 1 o' none)) n c1] (mkHp 2 (oE vs us)) [.skip 6, .b true, .skip 1, .b true, .skip 1, .b true, .skip 1, .b false, .skip 1, .b true, .skip 1, .b true, .skip 1, .b true, .skip 1, .b true, .skip 1, .b true, .skip 1, .b false, .b false, .skip 1, .grow false, .skip 1, .grow false, .skip 12, .b false] True) (.returned (Value.tuple (Array.mk [Value.pointer (some (Addr.mk 4 0 none)), Value.int IntKind.i64 0]))) [(0, AObj.rov vs), (1, AObj.rov us), (2, AObj.cells (A17 o n vs) 1), (3, AObj.cells (A17 o' n us) 1), (4, AObj.cells [Value.slice (some (Addr.mk 2 0 none)) (0 + n) (2 * (0 + n) + 1), Value.slice (some (Addr.mk 3 0 none)) (0 + n) (2 * (0 + n) + 1), Value.int IntKind.i64 a0, Value.int IntKind.i64 a1, Value.int IntKind.i64 a2, Value.int IntKind.i64 a3, Value.int IntKind.i64 a4, Value.int IntKind.i64 a5, Value.int IntKind.i64 a6, Value.int IntKind.i64 c] 0)] 5 :=
  cameCF_of (O := (((((((((((((((True ∧ (decide ((↑n : Int) < 1) == false) = true) ∧ (decide ((↑n : Int) < 1) == false) = true) ∧ (decide ((↑n : Int) < 1) == false) = true) ∧ decide ((↑n : Int) < 1) = false) ∧ (decide ((↑n : Int) > 7) == false) = true) ∧ (decide ((↑n : Int) > 7) == false) = true) ∧ (decide ((↑n : Int) > 7) == false) = true) ∧ (decide ((↑n : Int) > 7) == false) = true) ∧ (decide ((↑n : Int) > 7) == false) = true) ∧ decide ((↑n : Int) > 7) = false) ∧ ((↑n : Int) != (↑n : Int)) = false) ∧ o + n * 1 ≤ List.length vs ∧ 0 = 0 ∧ 0 = 0 ∧ n ≠ 0 ∧ (0 + n) * 8 ≤ 140737488355328 ∧ 0 + n ≤ 4611686018427387904 ∧ 0 = 0 ∧ List.length (List.take (n * 1) (List.drop o vs)) = n * 1 ∧ List.all (List.take (n * 1) (List.drop o vs)) one = true) ∧ o' + n * 1 ≤ List.length us ∧ 0 = 0 ∧ 0 = 0 ∧ n ≠ 0 ∧ (0 + n) * 8 ≤ 140737488355328 ∧ 0 + n ≤ 4611686018427387904 ∧ 0 = 0 ∧ List.length (List.take (n * 1) (List.drop o' us)) = n * 1 ∧ List.all (List.take (n * 1) (List.drop o' us)) one = true) ∧ SelfP 100 (t17 o o' c0 c1 n 0) (o17 vs us (A17 o n vs) (A17 o' n us) (cs17 (u17 2 n) (u17 3 n) (List.replicate 7 0, 0))) 5) ∧ (a0 == 0 && (a1 == 0 && (a2 == 0 && (a3 == 0 && (a4 == 0 && (a5 == 0 && (a6 == 0 && true))))))) = false)) (by kernel_rfl) ⟨⟨⟨⟨⟨⟨⟨⟨⟨⟨⟨⟨⟨⟨⟨trivial, gd h0 rfl⟩, gd h0 rfl⟩, gd h0 rfl⟩, h0⟩, gd h1 rfl⟩, gd h1 rfl⟩, gd h1 rfl⟩, gd h1 rfl⟩, gd h1 rfl⟩, h1⟩, h2⟩, h3⟩, h4⟩, selfP_true _ _ _ _⟩, h5⟩

theorem A17_eq {o : Nat} {vs : List Value} {ws : List Int} (hvs : ∀ i b, ws[i]? = some b → vs[o + i]? = some (.int .i64 b)) : A17 o ws.length vs = ints ws := by
  apply List.ext_getElem?
  intro i
  simp only [A17, Nat.mul_one, List.getElem?_take, List.getElem?_drop, ints, List.getElem?_map]
  by_cases h : i < ws.length
  · rw [if_pos h, hvs i _ (List.getElem?_eq_getElem h), List.getElem?_eq_getElem h]; rfl
  · rw [if_neg h, List.getElem?_eq_none (by omega)]; rfl
theorem A17_up {σ : Nat → Nat} {A : List Value} {ws : List Int} (h : A = ints ws) : A.map (upV σ) = A := by rw [h, up_ints]
theorem hvs_len {o : Nat} {vs : List Value} {ws : List Int} (hvs : ∀ i b, ws[i]? = some b → vs[o + i]? = some (.int .i64 b)) (h1 : 1 ≤ ws.length) : o + ws.length * 1 ≤ vs.length := by
  have := (List.getElem?_eq_some_iff.1 (hvs (ws.length - 1) _ (List.getElem?_eq_getElem (by omega)))).1
  omega
theorem ints_one (l : List Int) : (ints l).all one = true := by simp [ints, one]
theorem ints_bd (N : Nat) (l : List Int) : ∀ x ∈ ints l, Bd N x := by
  intro x hx
  simp only [ints, List.mem_map] at hx
  obtain ⟨b, _, rfl⟩ := hx
  simp
def good17 (ws gs : List Int) : Prop := (∀ i, i < ws.length → ok17 ws gs i) ∧ ∃ i, i < ws.length ∧ 0 < ws.getD i 0
section
variable {o o' c0 c1 : Nat} {vs us : List Value} {ws gs : List Int} (hvs : ∀ i b, ws[i]? = some b → vs[o + i]? = some (.int .i64 b)) (hus : ∀ i b, gs[i]? = some b → us[o' + i]? = some (.int .i64 b)) (hl : gs.length = ws.length) (h1 : 1 ≤ ws.length) (hn : ws.length ≤ 7)
include hvs hus hl h1 hn
theorem grow17 : (o + ws.length * 1 ≤ List.length vs ∧ 0 = 0 ∧ 0 = 0 ∧ ws.length ≠ 0 ∧ (0 + ws.length) * 8 ≤ 140737488355328 ∧ 0 + ws.length ≤ 4611686018427387904 ∧ 0 = 0 ∧ List.length (List.take (ws.length * 1) (List.drop o vs)) = ws.length * 1 ∧ List.all (List.take (ws.length * 1) (List.drop o vs)) one = true) ∧
    (o' + ws.length * 1 ≤ List.length us ∧ 0 = 0 ∧ 0 = 0 ∧ ws.length ≠ 0 ∧ (0 + ws.length) * 8 ≤ 140737488355328 ∧ 0 + ws.length ≤ 4611686018427387904 ∧ 0 = 0 ∧ List.length (List.take (ws.length * 1) (List.drop o' us)) = ws.length * 1 ∧ List.all (List.take (ws.length * 1) (List.drop o' us)) one = true) := by
  have e1 := A17_eq hvs
  have e2 := A17_eq hus
  rw [hl] at e2
  have l1 := hvs_len hvs h1
  have l2 := hvs_len hus (by omega)
  rw [hl] at l2
  simp only [A17] at e1 e2
  rw [e1, e2]
  exact ⟨⟨l1, rfl, rfl, by omega, by omega, by omega, rfl, by simp [ints], ints_one ws⟩, ⟨l2, rfl, rfl, by omega, by omega, by omega, rfl, by simp [ints, hl], ints_one gs⟩⟩
theorem fitsA17 (s : List Int × Int) {ts : List (Nat × Value)} (g1 : ∀ p ∈ ts, Bd 5 p.2) (g2 : smallN ts = true) : Fits 5 ts (o17 vs us (A17 o ws.length vs) (A17 o' ws.length us) (cs17 (u17 2 ws.length) (u17 3 ws.length) s)) 5 := by
  have e1 := A17_eq hvs
  have e2 := A17_eq hus
  rw [hl] at e2
  rw [e1, e2]
  exact fits17 vs us _ _ _ _ (ints_bd 5 ws) (ints_bd 5 gs) (by simp [u17]) (by simp [u17]) s g1 g2
theorem con17_no (hno : ¬ good17 ws gs) : ConOk Tryz.prog 17 ⟨fun σ => [.slice (some ⟨σ 0, o, none⟩) ws.length c0, .slice (some ⟨σ 1, o', none⟩) ws.length c1], oE vs us, 2, fun _ => .tuple #[.pointer none, .int .i64 200], fun _ => []⟩ := by
  have hh : Here E1 17 [0, 0, 1, 0, 1, 1, 1] (codeAt Tryz.f17 [0, 0, 1, 0, 1, 1, 1]) := codeAt_here (fn := Tryz.f17) (by kernel_rfl) (by kernel_rfl)
  obtain ⟨gw, gg⟩ := grow17 hvs hus hl h1 hn
  have e1 := A17_eq hvs
  have e2 := A17_eq hus
  rw [hl] at e2
  have hA : ∀ x ∈ A17 o ws.length vs, Bd 5 x := by rw [e1]; exact ints_bd 5 ws
  have hB : ∀ x ∈ A17 o' ws.length us, Bd 5 x := by rw [e2]; exact ints_bd 5 gs
  have hF := fun s => @fitsA17 o o' vs us ws gs hvs hus hl h1 hn s
  have hF2 : Fits 2 [] (oE vs us) 2 := ⟨rfl, rfl, by simp, by simp [oE, BdO], by decide, by decide⟩
  have hst : ∀ {j k : Nat} (_ : j ≤ ws.length) (_ : ∀ i, i < j → ok17 ws gs i) (hk : k < j) {Ψ : Post} (pr : Prot) (w0 : World), Tri Tryz.prog pr w0 5 (codeAt Tryz.f17 [0, 0, 1, 0, 1, 1, 1]) ((L17 o o' c0 c1 vs us (A17 o ws.length vs) (A17 o' ws.length us) (u17 2 ws.length) (u17 3 ws.length) ws gs j).fr ⟨k, Nat.le_of_lt hk⟩) ((L17 o o' c0 c1 vs us (A17 o ws.length vs) (A17 o' ws.length us) (u17 2 ws.length) (u17 3 ws.length) ws gs j).hp ⟨k, Nat.le_of_lt hk⟩) (LoopPost (L17 o o' c0 c1 vs us (A17 o ws.length vs) (A17 o' ws.length us) (u17 2 ws.length) (u17 3 ws.length) ws gs j) ⟨k, Nat.le_of_lt hk⟩ Ψ) :=
    fun {j k} hj hok hk {Ψ} pr w0 => step17 o o' c0 c1 vs us (A17 o ws.length vs) (A17 o' ws.length us) (u17 2 ws.length) (u17 3 ws.length) ws gs hvs hus hl hn hA hB (by simp [u17]) (by simp [u17]) hj hok hk pr w0
  by_cases hok : ∀ i, i < ws.length → ok17 ws gs i
  · have hz : ¬ ∃ a ∈ (st17 ws gs ws.length).1, a ≠ 0 := fun h => hno ⟨hok, (st17_some hok).2 h⟩
    have hlen := st17_len ws gs ws.length
    obtain ⟨a0, a1, a2, a3, a4, a5, a6, hal⟩ : ∃ a0 a1 a2 a3 a4 a5 a6, (st17 ws gs ws.length).1 = [a0, a1, a2, a3, a4, a5, a6] := by
      match (st17 ws gs ws.length).1, hlen with
      | [a0, a1, a2, a3, a4, a5, a6], _ => exact ⟨a0, a1, a2, a3, a4, a5, a6, rfl⟩
    rw [hal] at hz
    have hz' : ∀ a ∈ [a0, a1, a2, a3, a4, a5, a6], a = 0 := fun a ha => by
      by_cases h : a = 0
      · exact h
      · exact absurd ⟨a, ha, h⟩ hz
    simp only [List.mem_cons, List.not_mem_nil, or_false, forall_eq_or_imp, forall_eq] at hz'
    obtain ⟨rfl, rfl, rfl, rfl, rfl, rfl, rfl⟩ := hz'
    refine con_read hP1 (s := q17 o o' c0 c1 ws.length vs us .normal [(4, .pointer none), (5, .int .i64 0), (6, .pointer (some ⟨4, 0, none⟩))] ([0, 0, 0, 0, 0, 0, 0], (st17 ws gs ws.length).2)) (fun pr w0 => withL_ok (sm0_ok pr w0) (fn := Tryz.f17) (c := .block 0 (.loop (codeAt Tryz.f17 [0, 0, 1, 0, 1, 1, 1]))) (by kernel_rfl) (by kernel_rfl) (block_end (hF _ (by simp [t17]) rfl) ?_))
      (c17e_0 o o' c0 c1 ws.length vs us 0 0 0 0 0 0 0 (st17 ws gs ws.length).2 (by simp; omega) (by simp; omega) (by simp) gw gg rfl) hF2 (by have := hF ([0, 0, 0, 0, 0, 0, 0], (st17 ws gs ws.length).2) (ts := []) (by simp) rfl; exact (⟨rfl, this.so, by simp, this.bo, this.lim, by decide⟩ : Fits 2 [] _ 5)) (by simp) (by simp) (by intro σ; simp [upV]) (by intro σ; simp [upV])
    refine rounds_tri (L17 o o' c0 c1 vs us (A17 o ws.length vs) (A17 o' ws.length us) (u17 2 ws.length) (u17 3 ws.length) ws gs ws.length) ?_ ⟨0, Nat.zero_le _⟩
    rintro ⟨k, hk⟩
    by_cases hlt : k < ws.length
    · exact hst (Nat.le_refl _) hok hlt pr w0
    · have hk' : k = ws.length := by omega
      subst hk'
      refine out_came hP1 (sm0_ok pr w0) hh (cut_came (e17_7 o o' c0 c1 ws.length ws.length vs us (A17 o ws.length vs) (A17 o' ws.length us) (cs17 (u17 2 ws.length) (u17 3 ws.length) (st17 ws gs ws.length)) 0 0 0 0 (by simp)) (ts' := [(4, .pointer none), (5, .int .i64 0), (6, .pointer (some ⟨4, 0, none⟩))]) (by simp)) (by simp) (by simp) (hF _ (by simp) rfl) ⟨rfl, rfl, ?_⟩
      rw [show st17 ws gs ws.length = ([0, 0, 0, 0, 0, 0, 0], (st17 ws gs ws.length).2) from by rw [← hal]]
      rfl
  · obtain ⟨j, hj, hbad, hok⟩ : ∃ j, j < ws.length ∧ ¬ ok17 ws gs j ∧ ∀ i, i < j → ok17 ws gs i := by
      have : ∃ j, j < ws.length ∧ ¬ ok17 ws gs j := by
        by_cases h : ∃ j, j < ws.length ∧ ¬ ok17 ws gs j
        · exact h
        · exact absurd (fun i hi => by
            by_cases h' : ok17 ws gs i
            · exact h'
            · exact absurd ⟨i, hi, h'⟩ h) hok
      have key : ∀ m, ∀ j, j < m → j < ws.length → ¬ ok17 ws gs j → ∃ j, j < ws.length ∧ ¬ ok17 ws gs j ∧ ∀ i, i < j → ok17 ws gs i := by
        intro m
        induction m with
        | zero => intro j h; omega
        | succ m ih =>
          intro j hjm hj hb
          by_cases h : ∃ i, i < j ∧ ¬ ok17 ws gs i
          · obtain ⟨i, hi, hb'⟩ := h
            exact ih i (by omega) (by omega) hb'
          · exact ⟨j, hj, hb, fun i hi => by
              by_cases h' : ok17 ws gs i
              · exact h'
              · exact absurd ⟨i, hi, h'⟩ h⟩
      obtain ⟨j, hj, hb⟩ := this
      exact key (j + 1) j (by omega) hj hb
    refine con_read hP1 (s := q17 o o' c0 c1 ws.length vs us .ret [(4, .pointer none), (5, .int .i64 200)] (st17 ws gs j)) (fun pr w0 => withL_ok (sm0_ok pr w0) (fn := Tryz.f17) (c := .block 0 (.loop (codeAt Tryz.f17 [0, 0, 1, 0, 1, 1, 1]))) (by kernel_rfl) (by kernel_rfl) (block_ret (hF _ (by simp [t17]) rfl) ?_))
      (c17b_came o o' c0 c1 ws.length vs us (st17 ws gs j) (by simp; omega) (by simp; omega) (by simp) gw gg) hF2 (by have := hF (st17 ws gs j) (ts := []) (by simp) rfl; exact (⟨rfl, this.so, by simp, this.bo, this.lim, by decide⟩ : Fits 2 [] _ 5)) (by simp) (by simp) (by intro σ; simp [upV]) (by intro σ; simp [upV])
    refine rounds_tri (L17 o o' c0 c1 vs us (A17 o ws.length vs) (A17 o' ws.length us) (u17 2 ws.length) (u17 3 ws.length) ws gs j) ?_ ⟨0, Nat.zero_le _⟩
    rintro ⟨k, hk⟩
    by_cases hlt : k < j
    · exact hst (by omega) hok hlt pr w0
    · have hk' : k = j := by omega
      subst hk'
      have hwv : vs[o + Int.toNat (k : Int) * 1]? = some (.int .i64 (ws.getD k 0)) := by rw [Nat.mul_one]; exact hvs k _ (getD_some hj)
      have hgv : us[o' + Int.toNat (k : Int) * 1]? = some (.int .i64 (gs.getD k 0)) := by rw [Nat.mul_one]; exact hus k _ (getD_some (by omega))
      have d0 : decide ((k : Int) < (ws.length : Int)) = true := by simp; omega
      have d1 : 0 ≤ (k : Int) ∧ (k : Int) < (ws.length : Int) := by omega
      cases c1' : decide (ws.getD k 0 < 0) with
      | true =>
        have hcc := cut_came (e17_0 o o' c0 c1 ws.length k vs us (A17 o ws.length vs) (A17 o' ws.length us) (cs17 (u17 2 ws.length) (u17 3 ws.length) (st17 ws gs k)) (ws.getD k 0) 0 0 0 d0 d1 hwv c1') (ts' := [(4, .pointer none), (5, .int .i64 200)]) (by simp)
        exact out_came hP1 (sm0_ok pr w0) hh (L := L17 o o' c0 c1 vs us (A17 o ws.length vs) (A17 o' ws.length us) (u17 2 ws.length) (u17 3 ws.length) ws gs k) (t := ⟨k, hk⟩) hcc (by simp) (by simp) (hF (st17 ws gs k) (by simp) rfl) ⟨rfl, rfl, rfl⟩
      | false =>
        cases c2' : decide (ws.getD k 0 > 100) with
        | true =>
          have hcc := cut_came (e17_1 o o' c0 c1 ws.length k vs us (A17 o ws.length vs) (A17 o' ws.length us) (cs17 (u17 2 ws.length) (u17 3 ws.length) (st17 ws gs k)) (ws.getD k 0) 0 0 0 d0 d1 hwv c1' c2') (ts' := [(4, .pointer none), (5, .int .i64 200)]) (by simp)
          exact out_came hP1 (sm0_ok pr w0) hh (L := L17 o o' c0 c1 vs us (A17 o ws.length vs) (A17 o' ws.length us) (u17 2 ws.length) (u17 3 ws.length) ws gs k) (t := ⟨k, hk⟩) hcc (by simp) (by simp) (hF (st17 ws gs k) (by simp) rfl) ⟨rfl, rfl, rfl⟩
        | false =>
          cases c3' : decide (gs.getD k 0 < 0) with
          | true =>
            have hcc := cut_came (e17_2 o o' c0 c1 ws.length k vs us (A17 o ws.length vs) (A17 o' ws.length us) (cs17 (u17 2 ws.length) (u17 3 ws.length) (st17 ws gs k)) (ws.getD k 0) (gs.getD k 0) 0 0 d0 d1 hwv c1' c2' hgv c3') (ts' := [(4, .pointer none), (5, .int .i64 200)]) (by simp)
            exact out_came hP1 (sm0_ok pr w0) hh (L := L17 o o' c0 c1 vs us (A17 o ws.length vs) (A17 o' ws.length us) (u17 2 ws.length) (u17 3 ws.length) ws gs k) (t := ⟨k, hk⟩) hcc (by simp) (by simp) (hF (st17 ws gs k) (by simp) rfl) ⟨rfl, rfl, rfl⟩
          | false =>
            cases c4' : decide (gs.getD k 0 ≥ 7) with
            | true =>
              have hcc := cut_came (e17_3 o o' c0 c1 ws.length k vs us (A17 o ws.length vs) (A17 o' ws.length us) (cs17 (u17 2 ws.length) (u17 3 ws.length) (st17 ws gs k)) (ws.getD k 0) (gs.getD k 0) 0 0 d0 d1 hwv c1' c2' hgv c3' c4') (ts' := [(4, .pointer none), (5, .int .i64 200)]) (by simp)
              exact out_came hP1 (sm0_ok pr w0) hh (L := L17 o o' c0 c1 vs us (A17 o ws.length vs) (A17 o' ws.length us) (u17 2 ws.length) (u17 3 ws.length) ws gs k) (t := ⟨k, hk⟩) hcc (by simp) (by simp) (hF (st17 ws gs k) (by simp) rfl) ⟨rfl, rfl, rfl⟩
            | false =>
              simp only [decide_eq_false_iff_not] at c1' c2' c3' c4'
              exact absurd ⟨⟨by omega, by omega⟩, by omega, by omega⟩ hbad
theorem con17_yes (hyes : good17 ws gs) : ConOk Tryz.prog 17 ⟨fun σ => [.slice (some ⟨σ 0, o, none⟩) ws.length c0, .slice (some ⟨σ 1, o', none⟩) ws.length c1], oE vs us, 2, fun σ => .tuple #[.pointer (some ⟨σ 4, 0, none⟩), .int .i64 0], fun σ => [.cells (ints ws) 1, .cells (ints gs) 1, .cells (cs17 (u17 (σ 2) ws.length) (u17 (σ 3) ws.length) (st17 ws gs ws.length)) 0]⟩ := by
  have hh : Here E1 17 [0, 0, 1, 0, 1, 1, 1] (codeAt Tryz.f17 [0, 0, 1, 0, 1, 1, 1]) := codeAt_here (fn := Tryz.f17) (by kernel_rfl) (by kernel_rfl)
  obtain ⟨gw, gg⟩ := grow17 hvs hus hl h1 hn
  have e1 := A17_eq hvs
  have e2 := A17_eq hus
  rw [hl] at e2
  have hA : ∀ x ∈ A17 o ws.length vs, Bd 5 x := by rw [e1]; exact ints_bd 5 ws
  have hB : ∀ x ∈ A17 o' ws.length us, Bd 5 x := by rw [e2]; exact ints_bd 5 gs
  have hF := fun s => @fitsA17 o o' vs us ws gs hvs hus hl h1 hn s
  have hF2 : Fits 2 [] (oE vs us) 2 := ⟨rfl, rfl, by simp, by simp [oE, BdO], by decide, by decide⟩
  have hst : ∀ {j k : Nat} (_ : j ≤ ws.length) (_ : ∀ i, i < j → ok17 ws gs i) (hk : k < j) {Ψ : Post} (pr : Prot) (w0 : World), Tri Tryz.prog pr w0 5 (codeAt Tryz.f17 [0, 0, 1, 0, 1, 1, 1]) ((L17 o o' c0 c1 vs us (A17 o ws.length vs) (A17 o' ws.length us) (u17 2 ws.length) (u17 3 ws.length) ws gs j).fr ⟨k, Nat.le_of_lt hk⟩) ((L17 o o' c0 c1 vs us (A17 o ws.length vs) (A17 o' ws.length us) (u17 2 ws.length) (u17 3 ws.length) ws gs j).hp ⟨k, Nat.le_of_lt hk⟩) (LoopPost (L17 o o' c0 c1 vs us (A17 o ws.length vs) (A17 o' ws.length us) (u17 2 ws.length) (u17 3 ws.length) ws gs j) ⟨k, Nat.le_of_lt hk⟩ Ψ) :=
    fun {j k} hj hok hk {Ψ} pr w0 => step17 o o' c0 c1 vs us (A17 o ws.length vs) (A17 o' ws.length us) (u17 2 ws.length) (u17 3 ws.length) ws gs hvs hus hl hn hA hB (by simp [u17]) (by simp [u17]) hj hok hk pr w0
  obtain ⟨hok, hex⟩ := hyes
  have hz := (st17_some hok).1 hex
  have hlen := st17_len ws gs ws.length
  obtain ⟨a0, a1, a2, a3, a4, a5, a6, hal⟩ : ∃ a0 a1 a2 a3 a4 a5 a6, (st17 ws gs ws.length).1 = [a0, a1, a2, a3, a4, a5, a6] := by
    match (st17 ws gs ws.length).1, hlen with
    | [a0, a1, a2, a3, a4, a5, a6], _ => exact ⟨a0, a1, a2, a3, a4, a5, a6, rfl⟩
  rw [hal] at hz
  have hS : st17 ws gs ws.length = ([a0, a1, a2, a3, a4, a5, a6], (st17 ws gs ws.length).2) := by rw [← hal]
  have hne : (a0 == 0 && (a1 == 0 && (a2 == 0 && (a3 == 0 && (a4 == 0 && (a5 == 0 && (a6 == 0 && true))))))) = false := by
    cases hb : (a0 == 0 && (a1 == 0 && (a2 == 0 && (a3 == 0 && (a4 == 0 && (a5 == 0 && (a6 == 0 && true))))))) with
    | false => rfl
    | true =>
      simp only [Bool.and_eq_true, beq_iff_eq, and_true] at hb
      obtain ⟨rfl, rfl, rfl, rfl, rfl, rfl, rfl⟩ := hb
      obtain ⟨a, ha, hne⟩ := hz
      simp at ha
      exact absurd ha hne
  rw [hS, ← e1, ← e2]
  refine con_run hP1 (s := q17 o o' c0 c1 ws.length vs us .normal [(4, .pointer none), (5, .int .i64 0), (6, .pointer (some ⟨4, 0, none⟩))] ([a0, a1, a2, a3, a4, a5, a6], (st17 ws gs ws.length).2)) (fun pr w0 => withL_ok (sm0_ok pr w0) (fn := Tryz.f17) (c := .block 0 (.loop (codeAt Tryz.f17 [0, 0, 1, 0, 1, 1, 1]))) (by kernel_rfl) (by kernel_rfl) (block_end (hF _ (by simp [t17]) rfl) ?_))
    (c17e_1 o o' c0 c1 ws.length vs us a0 a1 a2 a3 a4 a5 a6 (st17 ws gs ws.length).2 (by simp; omega) (by simp; omega) (by simp) gw gg hne) hF2 (by have := hF ([a0, a1, a2, a3, a4, a5, a6], (st17 ws gs ws.length).2) (ts := []) (by simp) rfl; exact (⟨rfl, this.so, by simp, this.bo, this.lim, by decide⟩ : Fits 2 [] _ 5)) (by simp) (by simp) (by intro σ; simp [upV]) (by intro σ; simp [upV]) (by intro σ; simp [upO, cs17, u17, upV, A17_up e1, A17_up e2, up_ints]) rfl rfl ?_
  · refine rounds_tri (L17 o o' c0 c1 vs us (A17 o ws.length vs) (A17 o' ws.length us) (u17 2 ws.length) (u17 3 ws.length) ws gs ws.length) ?_ ⟨0, Nat.zero_le _⟩
    rintro ⟨k, hk⟩
    by_cases hlt : k < ws.length
    · exact hst (Nat.le_refl _) hok hlt pr w0
    · have hk' : k = ws.length := by omega
      subst hk'
      refine out_came hP1 (sm0_ok pr w0) hh (cut_came (e17_7 o o' c0 c1 ws.length ws.length vs us (A17 o ws.length vs) (A17 o' ws.length us) (cs17 (u17 2 ws.length) (u17 3 ws.length) (st17 ws gs ws.length)) 0 0 0 0 (by simp)) (ts' := [(4, .pointer none), (5, .int .i64 0), (6, .pointer (some ⟨4, 0, none⟩))]) (by simp)) (by simp) (by simp) (hF _ (by simp) rfl) ⟨rfl, rfl, ?_⟩
      rw [← hS]
      rfl
  · intro j o' hj
    match j, hj with
    | 0, hj => exact hj
    | 1, hj => exact hj
    | 2, hj => exact hj
    | j + 3, hj => simp at hj
end
end Go.Abs
end

section
set_option linter.unusedVariables false
set_option linter.unusedSimpArgs false
set_option linter.unusedSectionVars false
/-
  ClusterChecks: the document's quorum New.
-/
namespace Go.Abs
open Go.Proofs
set_option maxRecDepth 100000
set_option maxHeartbeats 4000000
set_option linter.unusedVariables false
def t22 (o o' c0 c1 n k : Nat) (b : Bool) : List (Nat × Value) := [(0, .slice (some ⟨0, o, none⟩) n c0), (1, .slice (some ⟨1, o', none⟩) n c1), (4, .pointer none), (5, .int .i64 0), (6, .int .i64 n), (7, .bool b), (8, .int .i64 k)]
def q22 (o o' c0 c1 n : Nat) (vs us : List Value) (e : Exit) (ts : List (Nat × Value)) : Sm :=
  withL sm0 22 [1, 0, 1, 1, 1, 1] (piece 70 (t22 o o' c0 c1 n 0 false) (oE vs us) 2 e (mkFr 70 ts) (mkHp 2 (oE vs us)))
def con23 (o cap n : Nat) (vs : List Value) (ws : List Int) : Con := ⟨fun σ => [.slice (some ⟨σ 0, o, none⟩) n cap], oS vs, 1, fun σ => .slice (some ⟨σ 1, 0, none⟩) n (2 * n + 1), fun _ => [.cells (ints ws) 1]⟩
def q22y (o o' c0 c1 n : Nat) (vs us : List Value) (ws gs : List Int) : Sm := withS (q22 o o' c0 c1 n vs us .normal [(0, .slice (some ⟨0, o, none⟩) n c0), (1, .slice (some ⟨1, o', none⟩) n c1), (4, .pointer none), (5, .int .i64 0), (7, .bool true)]) 23 (tabS [([0], viewS [0] (con23 o c0 n vs ws)), ([1], viewS [1] (con23 o' c1 n us gs))])
theorem e22_0 (o : Nat) (o' : Nat) (c0 : Nat) (c1 : Nat) (n : Nat) (k : Nat) (vs : List Value) (us : List Value) (w : Int) (g : Int) (b : Bool) (h0 : decide ((↑k : Int) < (↑n : Int)) = true) (h1 : 0 ≤ (↑k : Int) ∧ (↑k : Int) < (↑n : Int)) (h2 : vs[o + Int.toNat (↑k : Int) * 1]? = some (Value.int IntKind.i64 w)) (h3 : decide (w < 0) = true) :
    Ran (codeO Tryz.prog E1 (sm0) noRun 100 22 [0, 0, 1, 0, 1, 1, 1, 1] (codeAt Tryz.f22 [0, 0, 1, 0, 1, 1, 1, 1]) (mkFr 70 (t22 o o' c0 c1 n k b)) (mkHp 2 (oE vs us)) [.skip 3, .b true, .skip 2, .sym, .v (Value.int IntKind.i64 w), .skip 2, .b false, .b false, .b false, .b false, .b false, .b true] True) (Exit.ret) 70 [(0, Value.slice (some (Addr.mk 0 o none)) n c0), (1, Value.slice (some (Addr.mk 1 o' none)) n c1), (4, Value.pointer none), (5, Value.int IntKind.i64 200), (6, Value.int IntKind.i64 (↑n : Int)), (7, Value.bool b), (8, Value.int IntKind.i64 (↑k : Int))] [(0, AObj.rov vs), (1, AObj.rov us)] 2 :=
  cameF_of (O := (((((((((True ∧ decide ((↑k : Int) < (↑n : Int)) = true) ∧ 0 ≤ (↑k : Int) ∧ (↑k : Int) < (↑n : Int)) ∧ vs[o + Int.toNat (↑k : Int) * 1]? = some (Value.int IntKind.i64 w)) ∧ (decide (w < 0) == false) = false) ∧ (decide (w < 0) == false) = false) ∧ (decide (w < 0) == false) = false) ∧ (decide (w < 0) == false) = false) ∧ (decide (w < 0) == false) = false) ∧ decide (w < 0) = true)) (by kernel_rfl) ⟨⟨⟨⟨⟨⟨⟨⟨⟨trivial, h0⟩, h1⟩, h2⟩, gd h3 rfl⟩, gd h3 rfl⟩, gd h3 rfl⟩, gd h3 rfl⟩, gd h3 rfl⟩, h3⟩

theorem e22_1 (o : Nat) (o' : Nat) (c0 : Nat) (c1 : Nat) (n : Nat) (k : Nat) (vs : List Value) (us : List Value) (w : Int) (g : Int) (b : Bool) (h0 : decide ((↑k : Int) < (↑n : Int)) = true) (h1 : 0 ≤ (↑k : Int) ∧ (↑k : Int) < (↑n : Int)) (h2 : vs[o + Int.toNat (↑k : Int) * 1]? = some (Value.int IntKind.i64 w)) (h3 : decide (w < 0) = false) (h4 : decide (w > 100) = true) :
    Ran (codeO Tryz.prog E1 (sm0) noRun 100 22 [0, 0, 1, 0, 1, 1, 1, 1] (codeAt Tryz.f22 [0, 0, 1, 0, 1, 1, 1, 1]) (mkFr 70 (t22 o o' c0 c1 n k b)) (mkHp 2 (oE vs us)) [.skip 3, .b true, .skip 2, .sym, .v (Value.int IntKind.i64 w), .skip 2, .b true, .skip 1, .b true, .skip 1, .b true, .sym, .b true, .v (Value.int IntKind.i64 w), .b true, .skip 1, .b false, .skip 1, .b false, .b false, .b false, .b false, .b false, .b true] True) (Exit.ret) 70 [(0, Value.slice (some (Addr.mk 0 o none)) n c0), (1, Value.slice (some (Addr.mk 1 o' none)) n c1), (4, Value.pointer none), (5, Value.int IntKind.i64 200), (6, Value.int IntKind.i64 (↑n : Int)), (7, Value.bool b), (8, Value.int IntKind.i64 (↑k : Int))] [(0, AObj.rov vs), (1, AObj.rov us)] 2 :=
  cameF_of (O := (((((((((((((((((True ∧ decide ((↑k : Int) < (↑n : Int)) = true) ∧ 0 ≤ (↑k : Int) ∧ (↑k : Int) < (↑n : Int)) ∧ vs[o + Int.toNat (↑k : Int) * 1]? = some (Value.int IntKind.i64 w)) ∧ (decide (w < 0) == false) = true) ∧ (decide (w < 0) == false) = true) ∧ (decide (w < 0) == false) = true) ∧ 0 ≤ (↑k : Int) ∧ (↑k : Int) < (↑n : Int)) ∧ (decide (w < 0) == false) = true) ∧ vs[o + Int.toNat (↑k : Int) * 1]? = some (Value.int IntKind.i64 w)) ∧ (decide (w < 0) == false) = true) ∧ decide (w < 0) = false) ∧ (decide (w > 100) == false) = false) ∧ (decide (w > 100) == false) = false) ∧ (decide (w > 100) == false) = false) ∧ (decide (w > 100) == false) = false) ∧ (decide (w > 100) == false) = false) ∧ decide (w > 100) = true)) (by kernel_rfl) ⟨⟨⟨⟨⟨⟨⟨⟨⟨⟨⟨⟨⟨⟨⟨⟨⟨trivial, h0⟩, h1⟩, h2⟩, gd h3 rfl⟩, gd h3 rfl⟩, gd h3 rfl⟩, h1⟩, gd h3 rfl⟩, h2⟩, gd h3 rfl⟩, h3⟩, gd h4 rfl⟩, gd h4 rfl⟩, gd h4 rfl⟩, gd h4 rfl⟩, gd h4 rfl⟩, h4⟩

theorem e22_2 (o : Nat) (o' : Nat) (c0 : Nat) (c1 : Nat) (n : Nat) (k : Nat) (vs : List Value) (us : List Value) (w : Int) (g : Int) (b : Bool) (h0 : decide ((↑k : Int) < (↑n : Int)) = true) (h1 : 0 ≤ (↑k : Int) ∧ (↑k : Int) < (↑n : Int)) (h2 : vs[o + Int.toNat (↑k : Int) * 1]? = some (Value.int IntKind.i64 w)) (h3 : decide (w < 0) = false) (h4 : decide (w > 100) = false) (h5 : us[o' + Int.toNat (↑k : Int) * 1]? = some (Value.int IntKind.i64 g)) (h6 : decide (g < 0) = true) :
    Ran (codeO Tryz.prog E1 (sm0) noRun 100 22 [0, 0, 1, 0, 1, 1, 1, 1] (codeAt Tryz.f22 [0, 0, 1, 0, 1, 1, 1, 1]) (mkFr 70 (t22 o o' c0 c1 n k b)) (mkHp 2 (oE vs us)) [.skip 3, .b true, .skip 2, .sym, .v (Value.int IntKind.i64 w), .skip 2, .b true, .skip 1, .b true, .skip 1, .b true, .sym, .b true, .v (Value.int IntKind.i64 w), .b true, .skip 1, .b false, .skip 1, .b true, .skip 1, .b true, .skip 1, .b true, .sym, .b true, .v (Value.int IntKind.i64 g), .b true, .skip 1, .b false, .skip 1, .b false, .b false, .b false, .b false, .b false, .b true] True) (Exit.ret) 70 [(0, Value.slice (some (Addr.mk 0 o none)) n c0), (1, Value.slice (some (Addr.mk 1 o' none)) n c1), (4, Value.pointer none), (5, Value.int IntKind.i64 200), (6, Value.int IntKind.i64 (↑n : Int)), (7, Value.bool b), (8, Value.int IntKind.i64 (↑k : Int))] [(0, AObj.rov vs), (1, AObj.rov us)] 2 :=
  cameF_of (O := (((((((((((((((((((((((((True ∧ decide ((↑k : Int) < (↑n : Int)) = true) ∧ 0 ≤ (↑k : Int) ∧ (↑k : Int) < (↑n : Int)) ∧ vs[o + Int.toNat (↑k : Int) * 1]? = some (Value.int IntKind.i64 w)) ∧ (decide (w < 0) == false) = true) ∧ (decide (w < 0) == false) = true) ∧ (decide (w < 0) == false) = true) ∧ 0 ≤ (↑k : Int) ∧ (↑k : Int) < (↑n : Int)) ∧ (decide (w < 0) == false) = true) ∧ vs[o + Int.toNat (↑k : Int) * 1]? = some (Value.int IntKind.i64 w)) ∧ (decide (w < 0) == false) = true) ∧ decide (w < 0) = false) ∧ (decide (w > 100) == false) = true) ∧ (decide (w > 100) == false) = true) ∧ (decide (w > 100) == false) = true) ∧ 0 ≤ (↑k : Int) ∧ (↑k : Int) < (↑n : Int)) ∧ (decide (w > 100) == false) = true) ∧ us[o' + Int.toNat (↑k : Int) * 1]? = some (Value.int IntKind.i64 g)) ∧ (decide (w > 100) == false) = true) ∧ decide (w > 100) = false) ∧ (decide (g < 0) == false) = false) ∧ (decide (g < 0) == false) = false) ∧ (decide (g < 0) == false) = false) ∧ (decide (g < 0) == false) = false) ∧ (decide (g < 0) == false) = false) ∧ decide (g < 0) = true)) (by kernel_rfl) ⟨⟨⟨⟨⟨⟨⟨⟨⟨⟨⟨⟨⟨⟨⟨⟨⟨⟨⟨⟨⟨⟨⟨⟨⟨trivial, h0⟩, h1⟩, h2⟩, gd h3 rfl⟩, gd h3 rfl⟩, gd h3 rfl⟩, h1⟩, gd h3 rfl⟩, h2⟩, gd h3 rfl⟩, h3⟩, gd h4 rfl⟩, gd h4 rfl⟩, gd h4 rfl⟩, h1⟩, gd h4 rfl⟩, h5⟩, gd h4 rfl⟩, h4⟩, gd h6 rfl⟩, gd h6 rfl⟩, gd h6 rfl⟩, gd h6 rfl⟩, gd h6 rfl⟩, h6⟩

theorem e22_3 (o : Nat) (o' : Nat) (c0 : Nat) (c1 : Nat) (n : Nat) (k : Nat) (vs : List Value) (us : List Value) (w : Int) (g : Int) (b : Bool) (h0 : decide ((↑k : Int) < (↑n : Int)) = true) (h1 : 0 ≤ (↑k : Int) ∧ (↑k : Int) < (↑n : Int)) (h2 : vs[o + Int.toNat (↑k : Int) * 1]? = some (Value.int IntKind.i64 w)) (h3 : decide (w < 0) = false) (h4 : decide (w > 100) = false) (h5 : us[o' + Int.toNat (↑k : Int) * 1]? = some (Value.int IntKind.i64 g)) (h6 : decide (g < 0) = false) (h7 : decide (g ≥ 7) = true) :
    Ran (codeO Tryz.prog E1 (sm0) noRun 100 22 [0, 0, 1, 0, 1, 1, 1, 1] (codeAt Tryz.f22 [0, 0, 1, 0, 1, 1, 1, 1]) (mkFr 70 (t22 o o' c0 c1 n k b)) (mkHp 2 (oE vs us)) [.skip 3, .b true, .skip 2, .sym, .v (Value.int IntKind.i64 w), .skip 2, .b true, .skip 1, .b true, .skip 1, .b true, .sym, .b true, .v (Value.int IntKind.i64 w), .b true, .skip 1, .b false, .skip 1, .b true, .skip 1, .b true, .skip 1, .b true, .sym, .b true, .v (Value.int IntKind.i64 g), .b true, .skip 1, .b false, .skip 1, .b true, .skip 1, .b true, .skip 1, .b true, .sym, .b true, .v (Value.int IntKind.i64 g), .b true, .skip 1, .b false, .b true] True) (Exit.ret) 70 [(0, Value.slice (some (Addr.mk 0 o none)) n c0), (1, Value.slice (some (Addr.mk 1 o' none)) n c1), (4, Value.pointer none), (5, Value.int IntKind.i64 200), (6, Value.int IntKind.i64 (↑n : Int)), (7, Value.bool b), (8, Value.int IntKind.i64 (↑k : Int))] [(0, AObj.rov vs), (1, AObj.rov us)] 2 :=
  cameF_of (O := ((((((((((((((((((((((((((((True ∧ decide ((↑k : Int) < (↑n : Int)) = true) ∧ 0 ≤ (↑k : Int) ∧ (↑k : Int) < (↑n : Int)) ∧ vs[o + Int.toNat (↑k : Int) * 1]? = some (Value.int IntKind.i64 w)) ∧ (decide (w < 0) == false) = true) ∧ (decide (w < 0) == false) = true) ∧ (decide (w < 0) == false) = true) ∧ 0 ≤ (↑k : Int) ∧ (↑k : Int) < (↑n : Int)) ∧ (decide (w < 0) == false) = true) ∧ vs[o + Int.toNat (↑k : Int) * 1]? = some (Value.int IntKind.i64 w)) ∧ (decide (w < 0) == false) = true) ∧ decide (w < 0) = false) ∧ (decide (w > 100) == false) = true) ∧ (decide (w > 100) == false) = true) ∧ (decide (w > 100) == false) = true) ∧ 0 ≤ (↑k : Int) ∧ (↑k : Int) < (↑n : Int)) ∧ (decide (w > 100) == false) = true) ∧ us[o' + Int.toNat (↑k : Int) * 1]? = some (Value.int IntKind.i64 g)) ∧ (decide (w > 100) == false) = true) ∧ decide (w > 100) = false) ∧ (decide (g < 0) == false) = true) ∧ (decide (g < 0) == false) = true) ∧ (decide (g < 0) == false) = true) ∧ 0 ≤ (↑k : Int) ∧ (↑k : Int) < (↑n : Int)) ∧ (decide (g < 0) == false) = true) ∧ us[o' + Int.toNat (↑k : Int) * 1]? = some (Value.int IntKind.i64 g)) ∧ (decide (g < 0) == false) = true) ∧ decide (g < 0) = false) ∧ decide (g ≥ 7) = true)) (by kernel_rfl) ⟨⟨⟨⟨⟨⟨⟨⟨⟨⟨⟨⟨⟨⟨⟨⟨⟨⟨⟨⟨⟨⟨⟨⟨⟨⟨⟨⟨trivial, h0⟩, h1⟩, h2⟩, gd h3 rfl⟩, gd h3 rfl⟩, gd h3 rfl⟩, h1⟩, gd h3 rfl⟩, h2⟩, gd h3 rfl⟩, h3⟩, gd h4 rfl⟩, gd h4 rfl⟩, gd h4 rfl⟩, h1⟩, gd h4 rfl⟩, h5⟩, gd h4 rfl⟩, h4⟩, gd h6 rfl⟩, gd h6 rfl⟩, gd h6 rfl⟩, h1⟩, gd h6 rfl⟩, h5⟩, gd h6 rfl⟩, h6⟩, h7⟩

theorem e22_4 (o : Nat) (o' : Nat) (c0 : Nat) (c1 : Nat) (n : Nat) (k : Nat) (vs : List Value) (us : List Value) (w : Int) (g : Int) (b : Bool) (h0 : decide ((↑k : Int) < (↑n : Int)) = true) (h1 : 0 ≤ (↑k : Int) ∧ (↑k : Int) < (↑n : Int)) (h2 : vs[o + Int.toNat (↑k : Int) * 1]? = some (Value.int IntKind.i64 w)) (h3 : decide (w < 0) = false) (h4 : decide (w > 100) = false) (h5 : us[o' + Int.toNat (↑k : Int) * 1]? = some (Value.int IntKind.i64 g)) (h6 : decide (g < 0) = false) (h7 : decide (g ≥ 7) = false) (h8 : b = true) :
    Ran (codeO Tryz.prog E1 (sm0) noRun 100 22 [0, 0, 1, 0, 1, 1, 1, 1] (codeAt Tryz.f22 [0, 0, 1, 0, 1, 1, 1, 1]) (mkFr 70 (t22 o o' c0 c1 n k b)) (mkHp 2 (oE vs us)) [.skip 3, .b true, .skip 2, .sym, .v (Value.int IntKind.i64 w), .skip 2, .b true, .skip 1, .b true, .skip 1, .b true, .sym, .b true, .v (Value.int IntKind.i64 w), .b true, .skip 1, .b false, .skip 1, .b true, .skip 1, .b true, .skip 1, .b true, .sym, .b true, .v (Value.int IntKind.i64 g), .b true, .skip 1, .b false, .skip 1, .b true, .skip 1, .b true, .skip 1, .b true, .sym, .b true, .v (Value.int IntKind.i64 g), .b true, .skip 1, .b false, .b false, .skip 2, .b false, .b false, .b false, .b false, .b false, .b true] True) (Exit.normal) 70 [(0, Value.slice (some (Addr.mk 0 o none)) n c0), (1, Value.slice (some (Addr.mk 1 o' none)) n c1), (4, Value.pointer none), (5, Value.int IntKind.i64 0), (6, Value.int IntKind.i64 (↑n : Int)), (7, Value.bool true), (8, Value.int IntKind.i64 (IntKind.wrap IntKind.i64 ((↑k : Int) + 1)))] [(0, AObj.rov vs), (1, AObj.rov us)] 2 :=
  cameF_of (O := ((((((((((((((((((((((((((((((((((True ∧ decide ((↑k : Int) < (↑n : Int)) = true) ∧ 0 ≤ (↑k : Int) ∧ (↑k : Int) < (↑n : Int)) ∧ vs[o + Int.toNat (↑k : Int) * 1]? = some (Value.int IntKind.i64 w)) ∧ (decide (w < 0) == false) = true) ∧ (decide (w < 0) == false) = true) ∧ (decide (w < 0) == false) = true) ∧ 0 ≤ (↑k : Int) ∧ (↑k : Int) < (↑n : Int)) ∧ (decide (w < 0) == false) = true) ∧ vs[o + Int.toNat (↑k : Int) * 1]? = some (Value.int IntKind.i64 w)) ∧ (decide (w < 0) == false) = true) ∧ decide (w < 0) = false) ∧ (decide (w > 100) == false) = true) ∧ (decide (w > 100) == false) = true) ∧ (decide (w > 100) == false) = true) ∧ 0 ≤ (↑k : Int) ∧ (↑k : Int) < (↑n : Int)) ∧ (decide (w > 100) == false) = true) ∧ us[o' + Int.toNat (↑k : Int) * 1]? = some (Value.int IntKind.i64 g)) ∧ (decide (w > 100) == false) = true) ∧ decide (w > 100) = false) ∧ (decide (g < 0) == false) = true) ∧ (decide (g < 0) == false) = true) ∧ (decide (g < 0) == false) = true) ∧ 0 ≤ (↑k : Int) ∧ (↑k : Int) < (↑n : Int)) ∧ (decide (g < 0) == false) = true) ∧ us[o' + Int.toNat (↑k : Int) * 1]? = some (Value.int IntKind.i64 g)) ∧ (decide (g < 0) == false) = true) ∧ decide (g < 0) = false) ∧ decide (g ≥ 7) = false) ∧ (b == false) = false) ∧ (b == false) = false) ∧ (b == false) = false) ∧ (b == false) = false) ∧ (b == false) = false) ∧ b = true)) (by kernel_rfl) ⟨⟨⟨⟨⟨⟨⟨⟨⟨⟨⟨⟨⟨⟨⟨⟨⟨⟨⟨⟨⟨⟨⟨⟨⟨⟨⟨⟨⟨⟨⟨⟨⟨⟨trivial, h0⟩, h1⟩, h2⟩, gd h3 rfl⟩, gd h3 rfl⟩, gd h3 rfl⟩, h1⟩, gd h3 rfl⟩, h2⟩, gd h3 rfl⟩, h3⟩, gd h4 rfl⟩, gd h4 rfl⟩, gd h4 rfl⟩, h1⟩, gd h4 rfl⟩, h5⟩, gd h4 rfl⟩, h4⟩, gd h6 rfl⟩, gd h6 rfl⟩, gd h6 rfl⟩, h1⟩, gd h6 rfl⟩, h5⟩, gd h6 rfl⟩, h6⟩, h7⟩, gd h8 rfl⟩, gd h8 rfl⟩, gd h8 rfl⟩, gd h8 rfl⟩, gd h8 rfl⟩, h8⟩

theorem e22_5 (o : Nat) (o' : Nat) (c0 : Nat) (c1 : Nat) (n : Nat) (k : Nat) (vs : List Value) (us : List Value) (w : Int) (g : Int) (b : Bool) (h0 : decide ((↑k : Int) < (↑n : Int)) = true) (h1 : 0 ≤ (↑k : Int) ∧ (↑k : Int) < (↑n : Int)) (h2 : vs[o + Int.toNat (↑k : Int) * 1]? = some (Value.int IntKind.i64 w)) (h3 : decide (w < 0) = false) (h4 : decide (w > 100) = false) (h5 : us[o' + Int.toNat (↑k : Int) * 1]? = some (Value.int IntKind.i64 g)) (h6 : decide (g < 0) = false) (h7 : decide (g ≥ 7) = false) (h8 : b = false) :
    Ran (codeO Tryz.prog E1 (sm0) noRun 100 22 [0, 0, 1, 0, 1, 1, 1, 1] (codeAt Tryz.f22 [0, 0, 1, 0, 1, 1, 1, 1]) (mkFr 70 (t22 o o' c0 c1 n k b)) (mkHp 2 (oE vs us)) [.skip 3, .b true, .skip 2, .sym, .v (Value.int IntKind.i64 w), .skip 2, .b true, .skip 1, .b true, .skip 1, .b true, .sym, .b true, .v (Value.int IntKind.i64 w), .b true, .skip 1, .b false, .skip 1, .b true, .skip 1, .b true, .skip 1, .b true, .sym, .b true, .v (Value.int IntKind.i64 g), .b true, .skip 1, .b false, .skip 1, .b true, .skip 1, .b true, .skip 1, .b true, .sym, .b true, .v (Value.int IntKind.i64 g), .b true, .skip 1, .b false, .b false, .skip 2, .b true, .skip 1, .b true, .skip 1, .b true, .sym, .b true, .v (Value.int IntKind.i64 w), .b true, .skip 1, .b false] True) (Exit.normal) 70 [(0, Value.slice (some (Addr.mk 0 o none)) n c0), (1, Value.slice (some (Addr.mk 1 o' none)) n c1), (4, Value.pointer none), (5, Value.int IntKind.i64 0), (6, Value.int IntKind.i64 (↑n : Int)), (7, Value.bool (decide (w > 0))), (8, Value.int IntKind.i64 (IntKind.wrap IntKind.i64 ((↑k : Int) + 1)))] [(0, AObj.rov vs), (1, AObj.rov us)] 2 :=
  cameF_of (O := ((((((((((((((((((((((((((((((((((((True ∧ decide ((↑k : Int) < (↑n : Int)) = true) ∧ 0 ≤ (↑k : Int) ∧ (↑k : Int) < (↑n : Int)) ∧ vs[o + Int.toNat (↑k : Int) * 1]? = some (Value.int IntKind.i64 w)) ∧ (decide (w < 0) == false) = true) ∧ (decide (w < 0) == false) = true) ∧ (decide (w < 0) == false) = true) ∧ 0 ≤ (↑k : Int) ∧ (↑k : Int) < (↑n : Int)) ∧ (decide (w < 0) == false) = true) ∧ vs[o + Int.toNat (↑k : Int) * 1]? = some (Value.int IntKind.i64 w)) ∧ (decide (w < 0) == false) = true) ∧ decide (w < 0) = false) ∧ (decide (w > 100) == false) = true) ∧ (decide (w > 100) == false) = true) ∧ (decide (w > 100) == false) = true) ∧ 0 ≤ (↑k : Int) ∧ (↑k : Int) < (↑n : Int)) ∧ (decide (w > 100) == false) = true) ∧ us[o' + Int.toNat (↑k : Int) * 1]? = some (Value.int IntKind.i64 g)) ∧ (decide (w > 100) == false) = true) ∧ decide (w > 100) = false) ∧ (decide (g < 0) == false) = true) ∧ (decide (g < 0) == false) = true) ∧ (decide (g < 0) == false) = true) ∧ 0 ≤ (↑k : Int) ∧ (↑k : Int) < (↑n : Int)) ∧ (decide (g < 0) == false) = true) ∧ us[o' + Int.toNat (↑k : Int) * 1]? = some (Value.int IntKind.i64 g)) ∧ (decide (g < 0) == false) = true) ∧ decide (g < 0) = false) ∧ decide (g ≥ 7) = false) ∧ (b == false) = true) ∧ (b == false) = true) ∧ (b == false) = true) ∧ 0 ≤ (↑k : Int) ∧ (↑k : Int) < (↑n : Int)) ∧ (b == false) = true) ∧ vs[o + Int.toNat (↑k : Int) * 1]? = some (Value.int IntKind.i64 w)) ∧ (b == false) = true) ∧ b = false)) (by kernel_rfl) ⟨⟨⟨⟨⟨⟨⟨⟨⟨⟨⟨⟨⟨⟨⟨⟨⟨⟨⟨⟨⟨⟨⟨⟨⟨⟨⟨⟨⟨⟨⟨⟨⟨⟨⟨⟨trivial, h0⟩, h1⟩, h2⟩, gd h3 rfl⟩, gd h3 rfl⟩, gd h3 rfl⟩, h1⟩, gd h3 rfl⟩, h2⟩, gd h3 rfl⟩, h3⟩, gd h4 rfl⟩, gd h4 rfl⟩, gd h4 rfl⟩, h1⟩, gd h4 rfl⟩, h5⟩, gd h4 rfl⟩, h4⟩, gd h6 rfl⟩, gd h6 rfl⟩, gd h6 rfl⟩, h1⟩, gd h6 rfl⟩, h5⟩, gd h6 rfl⟩, h6⟩, h7⟩, gd h8 rfl⟩, gd h8 rfl⟩, gd h8 rfl⟩, h1⟩, gd h8 rfl⟩, h2⟩, gd h8 rfl⟩, h8⟩

theorem e22_6 (o : Nat) (o' : Nat) (c0 : Nat) (c1 : Nat) (n : Nat) (k : Nat) (vs : List Value) (us : List Value) (w : Int) (g : Int) (b : Bool) (h0 : decide ((↑k : Int) < (↑n : Int)) = false) :
    Ran (codeO Tryz.prog E1 (sm0) noRun 100 22 [0, 0, 1, 0, 1, 1, 1, 1] (codeAt Tryz.f22 [0, 0, 1, 0, 1, 1, 1, 1]) (mkFr 70 (t22 o o' c0 c1 n k b)) (mkHp 2 (oE vs us)) [.skip 3, .b false] True) (Exit.exit 0) 70 [(0, Value.slice (some (Addr.mk 0 o none)) n c0), (1, Value.slice (some (Addr.mk 1 o' none)) n c1), (4, Value.pointer none), (5, Value.int IntKind.i64 0), (6, Value.int IntKind.i64 (↑n : Int)), (7, Value.bool b), (8, Value.int IntKind.i64 (↑k : Int))] [(0, AObj.rov vs), (1, AObj.rov us)] 2 :=
  cameF_of (O := (True ∧ decide ((↑k : Int) < (↑n : Int)) = false)) (by kernel_rfl) ⟨trivial, h0⟩
theorem c22b_came (o : Nat) (o' : Nat) (c0 : Nat) (c1 : Nat) (n : Nat) (vs : List Value) (us : List Value) (h0 : decide ((↑n : Int) < 1) = false) (h1 : decide ((↑n : Int) > 7) = false) (h2 : ((↑n : Int) != (↑n : Int)) = false) :
    RanC (runO Tryz.prog E1 (q22 o o' c0 c1 n vs us Exit.ret [(4, Value.pointer none), (5, Value.int IntKind.i64 200)]) noRun 100 22 [Value.slice (some (Addr.mk 0 o none)) n c0, Value.slice (some (Addr.mk 1 o' none)) n c1] (mkHp 2 (oE vs us)) [.skip 8, .b true, .skip 1, .b true, .skip 1, .b false, .skip 1, .b true, .skip 1, .b true, .skip 1, .b true, .skip 1, .b true, .skip 1, .b false, .b false] True) (.returned (Value.tuple (Array.mk [Value.pointer none, Value.int IntKind.i64 200]))) [(0, AObj.rov vs), (1, AObj.rov us)] 2 :=
  cameCF_of (O := ((((((((((True ∧ (decide ((↑n : Int) < 1) == false) = true) ∧ (decide ((↑n : Int) < 1) == false) = true) ∧ decide ((↑n : Int) < 1) = false) ∧ (decide ((↑n : Int) > 7) == false) = true) ∧ (decide ((↑n : Int) > 7) == false) = true) ∧ (decide ((↑n : Int) > 7) == false) = true) ∧ (decide ((↑n : Int) > 7) == false) = true) ∧ decide ((↑n : Int) > 7) = false) ∧ ((↑n : Int) != (↑n : Int)) = false) ∧ SelfP 70 (t22 o o' c0 c1 n 0 false) (oE vs us) 2)) (by kernel_rfl) ⟨⟨⟨⟨⟨⟨⟨⟨⟨⟨trivial, gd h0 rfl⟩, gd h0 rfl⟩, h0⟩, gd h1 rfl⟩, gd h1 rfl⟩, gd h1 rfl⟩, gd h1 rfl⟩, h1⟩, h2⟩, selfP_true _ _ _ _⟩
theorem c22z_came (o : Nat) (o' : Nat) (c0 : Nat) (c1 : Nat) (n : Nat) (vs : List Value) (us : List Value) (h0 : decide ((↑n : Int) < 1) = false) (h1 : decide ((↑n : Int) > 7) = false) (h2 : ((↑n : Int) != (↑n : Int)) = false) :
    RanC (runO Tryz.prog E1 (q22 o o' c0 c1 n vs us Exit.normal [(0, Value.slice (some (Addr.mk 0 o none)) n c0), (1, Value.slice (some (Addr.mk 1 o' none)) n c1), (4, Value.pointer none), (5, Value.int IntKind.i64 0), (7, Value.bool false)]) noRun 100 22 [Value.slice (some (Addr.mk 0 o none)) n c0, Value.slice (some (Addr.mk 1 o' none)) n c1] (mkHp 2 (oE vs us)) [.skip 8, .b true, .skip 1, .b true, .skip 1, .b false, .skip 1, .b true, .skip 1, .b true, .skip 1, .b true, .skip 1, .b true, .skip 1, .b false, .b false] True) (.returned (Value.tuple (Array.mk [Value.pointer none, Value.int IntKind.i64 200]))) [(0, AObj.rov vs), (1, AObj.rov us)] 2 :=
  cameCF_of (O := ((((((((((True ∧ (decide ((↑n : Int) < 1) == false) = true) ∧ (decide ((↑n : Int) < 1) == false) = true) ∧ decide ((↑n : Int) < 1) = false) ∧ (decide ((↑n : Int) > 7) == false) = true) ∧ (decide ((↑n : Int) > 7) == false) = true) ∧ (decide ((↑n : Int) > 7) == false) = true) ∧ (decide ((↑n : Int) > 7) == false) = true) ∧ decide ((↑n : Int) > 7) = false) ∧ ((↑n : Int) != (↑n : Int)) = false) ∧ SelfP 70 (t22 o o' c0 c1 n 0 false) (oE vs us) 2)) (by kernel_rfl) ⟨⟨⟨⟨⟨⟨⟨⟨⟨⟨trivial, gd h0 rfl⟩, gd h0 rfl⟩, h0⟩, gd h1 rfl⟩, gd h1 rfl⟩, gd h1 rfl⟩, gd h1 rfl⟩, h1⟩, h2⟩, selfP_true _ _ _ _⟩
theorem c22e_came (o : Nat) (o' : Nat) (c0 : Nat) (c1 : Nat) (n : Nat) (vs : List Value) (us : List Value) (ws : List Int) (gs : List Int) (h0 : decide ((↑n : Int) < 1) = false) (h1 : decide ((↑n : Int) > 7) = false) (h2 : ((↑n : Int) != (↑n : Int)) = false) :
    RanC (runO Tryz.prog E1 (q22y o o' c0 c1 n vs us ws gs) noRun 100 22 [Value.slice (some (Addr.mk 0 o none)) n c0, Value.slice (some (Addr.mk 1 o' none)) n c1] (mkHp 2 (oE vs us)) [.skip 8, .b true, .skip 1, .b true, .skip 1, .b false, .skip 1, .b true, .skip 1, .b true, .skip 1, .b true, .skip 1, .b true, .skip 1, .b false, .b false] True) (.returned (Value.tuple (Array.mk [Value.pointer (some (Addr.mk 4 0 none)), Value.int IntKind.i64 0]))) [(0, AObj.rov vs), (1, AObj.rov us), (2, AObj.cells (ints ws) 1), (3, AObj.cells (ints gs) 1), (4, AObj.cells [Value.slice (some (Addr.mk 2 0 none)) n (2 * n + 1), Value.slice (some (Addr.mk 3 0 none)) n (2 * n + 1)] 0)] 5 :=
  cameCF_of (O := ((((((((((((True ∧ (decide ((↑n : Int) < 1) == false) = true) ∧ (decide ((↑n : Int) < 1) == false) = true) ∧ decide ((↑n : Int) < 1) = false) ∧ (decide ((↑n : Int) > 7) == false) = true) ∧ (decide ((↑n : Int) > 7) == false) = true) ∧ (decide ((↑n : Int) > 7) == false) = true) ∧ (decide ((↑n : Int) > 7) == false) = true) ∧ decide ((↑n : Int) > 7) = false) ∧ ((↑n : Int) != (↑n : Int)) = false) ∧ SelfP 70 (t22 o o' c0 c1 n 0 false) (oE vs us) 2) ∧ ([Value.slice (some (Addr.mk 0 o none)) n c0] = [Value.slice (some (Addr.mk 0 o none)) n c0] ∧ true = true ∧ true = true) ∧ vs = vs ∧ True) ∧ ([Value.slice (some (Addr.mk 1 o' none)) n c1] = [Value.slice (some (Addr.mk 1 o' none)) n c1] ∧ true = true ∧ true = true) ∧ us = us ∧ True)) (by kernel_rfl) ⟨⟨⟨⟨⟨⟨⟨⟨⟨⟨⟨⟨trivial, gd h0 rfl⟩, gd h0 rfl⟩, h0⟩, gd h1 rfl⟩, gd h1 rfl⟩, gd h1 rfl⟩, gd h1 rfl⟩, h1⟩, h2⟩, selfP_true _ _ _ _⟩, ⟨⟨rfl, ⟨rfl, rfl⟩⟩, ⟨rfl, trivial⟩⟩⟩, ⟨⟨rfl, ⟨rfl, rfl⟩⟩, ⟨rfl, trivial⟩⟩⟩

end Go.Abs
end

section
set_option linter.unusedVariables false
set_option linter.unusedSimpArgs false
set_option linter.unusedSectionVars false
/-
  ClusterChecks: the document's quorum New, the function.
-/
namespace Go.Abs
open Go.Proofs
set_option maxRecDepth 100000
set_option maxHeartbeats 4000000
set_option linter.unusedVariables false

def any22 (ws : List Int) (k : Nat) : Bool := (List.range k).any fun i => decide (ws.getD i 0 > 0)
theorem any22_succ (ws : List Int) (k : Nat) : any22 ws (k + 1) = (any22 ws k || decide (ws.getD k 0 > 0)) := by simp [any22, List.range_succ]
theorem any22_iff (ws : List Int) (k : Nat) : any22 ws k = true ↔ ∃ i, i < k ∧ 0 < ws.getD i 0 := by
  simp only [any22, List.any_eq_true, List.mem_range, decide_eq_true_eq]
theorem oE_fits {N k : Nat} {vs us : List Value} {ts : List (Nat × Value)} (h1 : smallN ts = true) (h2 : ∀ p ∈ ts, Bd (k + 2) p.2) (hk : k + 2 ≤ limit) (hN : N ≤ k + 2) : Fits N ts (oE vs us) (k + 2) :=
  ⟨h1, rfl, h2, by intro p hp; simp [oE] at hp; rcases hp with rfl | rfl <;> exact ⟨by simp; try omega, trivial⟩, hk, hN⟩
theorem con23_ok {o cap n : Nat} {vs : List Value} {ws : List Int} (hvs : ∀ i b, ws[i]? = some b → vs[o + i]? = some (.int .i64 b)) (hlen : ws.length = n) (hpos : n ≠ 0) (hsm : n < 16777216) : ConOk Tryz.prog 23 (con23 o cap n vs ws) := by
  subst hlen
  obtain ⟨k, hk⟩ : ∃ k, ws.length = k + 1 := ⟨ws.length - 1, by omega⟩
  have hL := local23 o cap vs ws hvs hsm
  rw [show cp23 ws.length = .slice (some ⟨1, 0, none⟩) ws.length (2 * ws.length + 1) from by rw [hk]; rfl, show hp23 vs ws ws.length = mkHp 2 (os23 vs 1 (ints ws)) from by rw [hk]; simp only [hp23]; rw [← hk, List.take_length]] at hL
  refine ⟨rfl, by simp [con23, oS], by simp [con23], by simp [con23, hard], (by decide : 1 ≤ limit), by intro σ; simp [con23, upV], by intro σ; simp [con23, upV], by intro σ; simp [con23, upO, up_ints], _, hL, rfl, ?_⟩
  intro j o' hj
  cases j with
  | zero => simp [con23] at hj; subst hj; rw [Hp.get, mkHp, mkT_get _ _ (smallN_spec rfl)]; rfl
  | succ j => simp [con23] at hj
section
variable {o o' c0 c1 : Nat} {vs us : List Value} {ws gs : List Int} (hvs : ∀ i b, ws[i]? = some b → vs[o + i]? = some (.int .i64 b)) (hus : ∀ i b, gs[i]? = some b → us[o' + i]? = some (.int .i64 b)) (hl : gs.length = ws.length) (h1 : 1 ≤ ws.length) (hn : ws.length ≤ 7)
def L22 (o o' c0 c1 : Nat) (vs us : List Value) (ws : List Int) (j : Nat) : Lp { k : Nat // k ≤ j } := ⟨70, fun t => t22 o o' c0 c1 ws.length t.1 (any22 ws t.1), fun _ => oE vs us, fun _ => 2, fun t => j - t.1⟩
include hvs hus hl h1 hn
theorem step22 {j k : Nat} (hj : j ≤ ws.length) (hok : ∀ i, i < j → ok17 ws gs i) (hk : k < j) {Ψ : Post} (pr : Prot) (w0 : World) :
    Tri Tryz.prog pr w0 2 (codeAt Tryz.f22 [0, 0, 1, 0, 1, 1, 1, 1]) ((L22 o o' c0 c1 vs us ws j).fr ⟨k, Nat.le_of_lt hk⟩) ((L22 o o' c0 c1 vs us ws j).hp ⟨k, Nat.le_of_lt hk⟩) (LoopPost (L22 o o' c0 c1 vs us ws j) ⟨k, Nat.le_of_lt hk⟩ Ψ) := by
  have hh : Here E1 22 [0, 0, 1, 0, 1, 1, 1, 1] (codeAt Tryz.f22 [0, 0, 1, 0, 1, 1, 1, 1]) := codeAt_here (fn := Tryz.f22) (by kernel_rfl) (by kernel_rfl)
  obtain ⟨⟨w1, w2⟩, g1, g2⟩ := hok k hk
  have hw : ws[k]? = some (ws.getD k 0) := getD_some (by omega)
  have hg : gs[k]? = some (gs.getD k 0) := getD_some (by omega)
  have hwv : vs[o + Int.toNat (k : Int) * 1]? = some (.int .i64 (ws.getD k 0)) := by rw [Nat.mul_one]; exact hvs k _ hw
  have hgv : us[o' + Int.toNat (k : Int) * 1]? = some (.int .i64 (gs.getD k 0)) := by rw [Nat.mul_one]; exact hus k _ hg
  have hnx := any22_succ ws k
  have e0 : decide ((k : Int) < (ws.length : Int)) = true := by simp; omega
  have e1 : 0 ≤ (k : Int) ∧ (k : Int) < (ws.length : Int) := by omega
  have hk1 : IntKind.i64.wrap ((k : Int) + 1) = ((k + 1 : Nat) : Int) := by rw [i64_small (by omega) (by omega)]; rfl
  have hF : Fits 2 (t22 o o' c0 c1 ws.length (k + 1) (any22 ws (k + 1))) (oE vs us) 2 := oE_fits (k := 0) rfl (by simp [t22]) (by decide) (by decide)
  generalize ws.getD k 0 = W at *
  generalize gs.getD k 0 = G at *
  have d1 : decide (W < 0) = false := by simp; omega
  have d2 : decide (W > 100) = false := by simp; omega
  have d3 : decide (G < 0) = false := by simp; omega
  have d4 : decide (G ≥ 7) = false := by simp; omega
  cases hb : any22 ws k with
  | true =>
    have hc := e22_4 o o' c0 c1 ws.length k vs us W G (any22 ws k) e0 e1 hwv d1 d2 hgv d3 d4 hb
    refine on_came hP1 (sm0_ok pr w0) hh (L := L22 o o' c0 c1 vs us ws j) (t := ⟨k, Nat.le_of_lt hk⟩) hc ⟨k + 1, hk⟩ ?_ rfl rfl (by simp only [L22]; omega) hF
    simp only [L22, t22, hnx, hb, hk1, Bool.true_or]
  | false =>
    have hc := e22_5 o o' c0 c1 ws.length k vs us W G (any22 ws k) e0 e1 hwv d1 d2 hgv d3 d4 hb
    refine on_came hP1 (sm0_ok pr w0) hh (L := L22 o o' c0 c1 vs us ws j) (t := ⟨k, Nat.le_of_lt hk⟩) hc ⟨k + 1, hk⟩ ?_ rfl rfl (by simp only [L22]; omega) hF
    simp only [L22, t22, hnx, hb, hk1, Bool.false_or]
theorem first_bad (hbad : ¬ ∀ i, i < ws.length → ok17 ws gs i) : ∃ j, j < ws.length ∧ ¬ ok17 ws gs j ∧ ∀ i, i < j → ok17 ws gs i := by
  have : ∃ j, j < ws.length ∧ ¬ ok17 ws gs j := by
    by_cases h : ∃ j, j < ws.length ∧ ¬ ok17 ws gs j
    · exact h
    · exact absurd (fun i hi => by
        by_cases h' : ok17 ws gs i
        · exact h'
        · exact absurd ⟨i, hi, h'⟩ h) hbad
  have key : ∀ m, ∀ j, j < m → j < ws.length → ¬ ok17 ws gs j → ∃ j, j < ws.length ∧ ¬ ok17 ws gs j ∧ ∀ i, i < j → ok17 ws gs i := by
    intro m
    induction m with
    | zero => intro j h; omega
    | succ m ih =>
      intro j hjm hj hb
      by_cases h : ∃ i, i < j ∧ ¬ ok17 ws gs i
      · obtain ⟨i, hi, hb'⟩ := h
        exact ih i (by omega) (by omega) hb'
      · exact ⟨j, hj, hb, fun i hi => by
          by_cases h' : ok17 ws gs i
          · exact h'
          · exact absurd ⟨i, hi, h'⟩ h⟩
  obtain ⟨j, hj, hb⟩ := this
  exact key (j + 1) j (by omega) hj hb
theorem con22_no (hno : ¬ good17 ws gs) : ConOk Tryz.prog 22 ⟨fun σ => [.slice (some ⟨σ 0, o, none⟩) ws.length c0, .slice (some ⟨σ 1, o', none⟩) ws.length c1], oE vs us, 2, fun _ => .tuple #[.pointer none, .int .i64 200], fun _ => []⟩ := by
  have hh : Here E1 22 [0, 0, 1, 0, 1, 1, 1, 1] (codeAt Tryz.f22 [0, 0, 1, 0, 1, 1, 1, 1]) := codeAt_here (fn := Tryz.f22) (by kernel_rfl) (by kernel_rfl)
  have hF : ∀ ts, smallN ts = true → (∀ p ∈ ts, Bd (0 + 2) p.2) → Fits 2 ts (oE vs us) 2 := fun ts g1 g2 => oE_fits (k := 0) g1 g2 (by decide) (by decide)
  by_cases hok : ∀ i, i < ws.length → ok17 ws gs i
  · have hz : any22 ws ws.length = false := by
      cases h : any22 ws ws.length with
      | false => rfl
      | true => exact absurd ⟨hok, (any22_iff ws _).1 h⟩ hno
    refine con_read hP1 (s := q22 o o' c0 c1 ws.length vs us .normal [(0, .slice (some ⟨0, o, none⟩) ws.length c0), (1, .slice (some ⟨1, o', none⟩) ws.length c1), (4, .pointer none), (5, .int .i64 0), (7, .bool false)]) (fun pr w0 => withL_ok (sm0_ok pr w0) (fn := Tryz.f22) (c := .block 0 (.loop (codeAt Tryz.f22 [0, 0, 1, 0, 1, 1, 1, 1]))) (by kernel_rfl) (by kernel_rfl) (block_end (hF _ rfl (by simp [t22])) ?_))
      (c22z_came o o' c0 c1 ws.length vs us (by simp; omega) (by simp; omega) (by simp)) (hF _ rfl (by simp)) (hF _ rfl (by simp)) (by simp) (by simp) (by intro σ; simp [upV]) (by intro σ; simp [upV])
    refine rounds_tri (L22 o o' c0 c1 vs us ws ws.length) ?_ ⟨0, Nat.zero_le _⟩
    rintro ⟨k, hk⟩
    by_cases hlt : k < ws.length
    · exact step22 hvs hus hl h1 hn (Nat.le_refl _) hok hlt pr w0
    · have hk' : k = ws.length := by omega
      subst hk'
      have hc := cut_came (e22_6 o o' c0 c1 ws.length ws.length vs us 0 0 (any22 ws ws.length) (by simp)) (ts' := [(0, .slice (some ⟨0, o, none⟩) ws.length c0), (1, .slice (some ⟨1, o', none⟩) ws.length c1), (4, .pointer none), (5, .int .i64 0), (7, .bool false)]) (by rw [hz]; simp)
      exact out_came hP1 (sm0_ok pr w0) hh (L := L22 o o' c0 c1 vs us ws ws.length) (t := ⟨ws.length, hk⟩) hc (by simp) (by simp) (hF _ rfl (by simp)) ⟨rfl, rfl, rfl⟩
  · obtain ⟨j, hj, hbad, hok⟩ := first_bad hvs hus hl h1 hn hok
    refine con_read hP1 (s := q22 o o' c0 c1 ws.length vs us .ret [(4, .pointer none), (5, .int .i64 200)]) (fun pr w0 => withL_ok (sm0_ok pr w0) (fn := Tryz.f22) (c := .block 0 (.loop (codeAt Tryz.f22 [0, 0, 1, 0, 1, 1, 1, 1]))) (by kernel_rfl) (by kernel_rfl) (block_ret (hF _ rfl (by simp [t22])) ?_))
      (c22b_came o o' c0 c1 ws.length vs us (by simp; omega) (by simp; omega) (by simp)) (hF _ rfl (by simp)) (hF _ rfl (by simp)) (by simp) (by simp) (by intro σ; simp [upV]) (by intro σ; simp [upV])
    refine rounds_tri (L22 o o' c0 c1 vs us ws j) ?_ ⟨0, Nat.zero_le _⟩
    rintro ⟨k, hk⟩
    by_cases hlt : k < j
    · exact step22 hvs hus hl h1 hn (by omega) hok hlt pr w0
    · have hk' : k = j := by omega
      subst hk'
      have hwv : vs[o + Int.toNat (k : Int) * 1]? = some (.int .i64 (ws.getD k 0)) := by rw [Nat.mul_one]; exact hvs k _ (getD_some hj)
      have hgv : us[o' + Int.toNat (k : Int) * 1]? = some (.int .i64 (gs.getD k 0)) := by rw [Nat.mul_one]; exact hus k _ (getD_some (by omega))
      have d0 : decide ((k : Int) < (ws.length : Int)) = true := by simp; omega
      have d1 : 0 ≤ (k : Int) ∧ (k : Int) < (ws.length : Int) := by omega
      cases c1' : decide (ws.getD k 0 < 0) with
      | true =>
        have hc := cut_came (e22_0 o o' c0 c1 ws.length k vs us (ws.getD k 0) 0 (any22 ws k) d0 d1 hwv c1') (ts' := [(4, .pointer none), (5, .int .i64 200)]) (by simp)
        exact out_came hP1 (sm0_ok pr w0) hh (L := L22 o o' c0 c1 vs us ws k) (t := ⟨k, hk⟩) hc (by simp) (by simp) (hF _ rfl (by simp)) ⟨rfl, rfl, rfl⟩
      | false =>
        cases c2' : decide (ws.getD k 0 > 100) with
        | true =>
          have hc := cut_came (e22_1 o o' c0 c1 ws.length k vs us (ws.getD k 0) 0 (any22 ws k) d0 d1 hwv c1' c2') (ts' := [(4, .pointer none), (5, .int .i64 200)]) (by simp)
          exact out_came hP1 (sm0_ok pr w0) hh (L := L22 o o' c0 c1 vs us ws k) (t := ⟨k, hk⟩) hc (by simp) (by simp) (hF _ rfl (by simp)) ⟨rfl, rfl, rfl⟩
        | false =>
          cases c3' : decide (gs.getD k 0 < 0) with
          | true =>
            have hc := cut_came (e22_2 o o' c0 c1 ws.length k vs us (ws.getD k 0) (gs.getD k 0) (any22 ws k) d0 d1 hwv c1' c2' hgv c3') (ts' := [(4, .pointer none), (5, .int .i64 200)]) (by simp)
            exact out_came hP1 (sm0_ok pr w0) hh (L := L22 o o' c0 c1 vs us ws k) (t := ⟨k, hk⟩) hc (by simp) (by simp) (hF _ rfl (by simp)) ⟨rfl, rfl, rfl⟩
          | false =>
            cases c4' : decide (gs.getD k 0 ≥ 7) with
            | true =>
              have hc := cut_came (e22_3 o o' c0 c1 ws.length k vs us (ws.getD k 0) (gs.getD k 0) (any22 ws k) d0 d1 hwv c1' c2' hgv c3' c4') (ts' := [(4, .pointer none), (5, .int .i64 200)]) (by simp)
              exact out_came hP1 (sm0_ok pr w0) hh (L := L22 o o' c0 c1 vs us ws k) (t := ⟨k, hk⟩) hc (by simp) (by simp) (hF _ rfl (by simp)) ⟨rfl, rfl, rfl⟩
            | false =>
              simp only [decide_eq_false_iff_not] at c1' c2' c3' c4'
              exact absurd ⟨⟨by omega, by omega⟩, by omega, by omega⟩ hbad
theorem con22_yes (hyes : good17 ws gs) : ConOk Tryz.prog 22 ⟨fun σ => [.slice (some ⟨σ 0, o, none⟩) ws.length c0, .slice (some ⟨σ 1, o', none⟩) ws.length c1], oE vs us, 2, fun σ => .tuple #[.pointer (some ⟨σ 4, 0, none⟩), .int .i64 0], fun σ => [.cells (ints ws) 1, .cells (ints gs) 1, .cells [.slice (some ⟨σ 2, 0, none⟩) ws.length (2 * ws.length + 1), .slice (some ⟨σ 3, 0, none⟩) ws.length (2 * ws.length + 1)] 0]⟩ := by
  have hh : Here E1 22 [0, 0, 1, 0, 1, 1, 1, 1] (codeAt Tryz.f22 [0, 0, 1, 0, 1, 1, 1, 1]) := codeAt_here (fn := Tryz.f22) (by kernel_rfl) (by kernel_rfl)
  have hF : ∀ ts, smallN ts = true → (∀ p ∈ ts, Bd (0 + 2) p.2) → Fits 2 ts (oE vs us) 2 := fun ts g1 g2 => oE_fits (k := 0) g1 g2 (by decide) (by decide)
  obtain ⟨hok, hex⟩ := hyes
  have hz : any22 ws ws.length = true := (any22_iff ws _).2 hex
  have hF5 : Fits 2 [] [(0, AObj.rov vs), (1, AObj.rov us), (2, AObj.cells (ints ws) 1), (3, AObj.cells (ints gs) 1), (4, AObj.cells [Value.slice (some (Addr.mk 2 0 none)) ws.length (2 * ws.length + 1), Value.slice (some (Addr.mk 3 0 none)) ws.length (2 * ws.length + 1)] 0)] 5 := by
    refine ⟨rfl, rfl, by simp, ?_, by decide, by decide⟩
    intro p hp
    simp only [List.mem_cons, List.not_mem_nil, or_false] at hp
    rcases hp with rfl | rfl | rfl | rfl | rfl
    · exact ⟨by simp, trivial⟩
    · exact ⟨by simp, trivial⟩
    · exact ⟨by simp, ints_bd 5 ws⟩
    · exact ⟨by simp, ints_bd 5 gs⟩
    · exact ⟨by simp, by intro v hv; simp at hv; rcases hv with rfl | rfl <;> simp⟩
  refine con_run hP1 (s := q22y o o' c0 c1 ws.length vs us ws gs) (fun pr w0 => withS_ok (withL_ok (sm0_ok pr w0) (fn := Tryz.f22) (c := .block 0 (.loop (codeAt Tryz.f22 [0, 0, 1, 0, 1, 1, 1, 1]))) (by kernel_rfl) (by kernel_rfl) (block_end (hF _ rfl (by simp [t22])) ?_)) (tabS_ok ?_))
    (c22e_came o o' c0 c1 ws.length vs us ws gs (by simp; omega) (by simp; omega) (by simp)) (hF _ rfl (by simp)) hF5 (by simp) (by simp) (by intro σ; simp [upV]) (by intro σ; simp [upV]) (by intro σ; simp [upO, upV, up_ints]) rfl rfl ?_
  · refine rounds_tri (L22 o o' c0 c1 vs us ws ws.length) ?_ ⟨0, Nat.zero_le _⟩
    rintro ⟨k, hk⟩
    by_cases hlt : k < ws.length
    · exact step22 hvs hus hl h1 hn (Nat.le_refl _) hok hlt pr w0
    · have hk' : k = ws.length := by omega
      subst hk'
      have hc := cut_came (e22_6 o o' c0 c1 ws.length ws.length vs us 0 0 (any22 ws ws.length) (by simp)) (ts' := [(0, .slice (some ⟨0, o, none⟩) ws.length c0), (1, .slice (some ⟨1, o', none⟩) ws.length c1), (4, .pointer none), (5, .int .i64 0), (7, .bool true)]) (by rw [hz]; simp)
      exact out_came hP1 (sm0_ok pr w0) hh (L := L22 o o' c0 c1 vs us ws ws.length) (t := ⟨ws.length, hk⟩) hc (by simp) (by simp) (hF _ rfl (by simp)) ⟨rfl, rfl, rfl⟩
  · intro p hp
    simp only [List.mem_cons, List.not_mem_nil, or_false] at hp
    rcases hp with rfl | rfl
    · exact viewS_ok (con23_ok hvs rfl (by omega) (by omega)) _
    · exact viewS_ok (con23_ok hus hl (by omega) (by omega)) _
  · intro j o' hj
    match j, hj with
    | 0, hj => exact hj
    | 1, hj => exact hj
    | 2, hj => exact hj
    | j + 3, hj => simp at hj
end
end Go.Abs
end

section
set_option linter.unusedVariables false
set_option linter.unusedSimpArgs false
set_option linter.unusedSectionVars false
/-
  ClusterChecks: Check's tests, one by one.
-/
namespace Go.Abs
open Go.Proofs
set_option maxRecDepth 100000
set_option maxHeartbeats 4000000
set_option linter.unusedVariables false
def cf (s0 s1 : Value) (ca : Int) (fa : Nat) (ch se ro le lc : Int) : List Value := [s0, s1, .int .i64 ca, .float .f64 fa, .int .i64 ch, .int .i64 se, .int .i64 ro, .int .u32 le, .int .u32 lc]
def t5 (x : List (Nat × Value)) : List (Nat × Value) := [(1, .pointer (some ⟨2, 0, none⟩)), (2, .int .i64 0)] ++ x
def o5 (vs us c : List Value) : List (Nat × AObj) := [(0, .rov vs), (1, .rov us), (2, .cells c 0)]
theorem e5a_0 (vs : List Value) (us : List Value) (o : Nat) (o' : Nat) (c0 : Nat) (c1 : Nat) (n : Nat) (m : Nat) (ca : Int) (fa : Nat) (ch : Int) (se : Int) (ro : Int) (le : Int) (lc : Int) (h0 : ((↑n : Int) == (↑m : Int)) = true) (h1 : decide ((↑n : Int) ≥ 1) = true) :
    Ran (codeO Tryz.prog E1 (sm0) noRun 100 5 [0, 1, 1] (codeAt Tryz.f5 [0, 1, 1]) (mkFr 98 (t5 [(3, Value.int IntKind.i64 (↑n : Int))])) (mkHp 3 (o5 vs us (cf (Value.slice (some (Addr.mk 0 o none)) n c0) (Value.slice (some (Addr.mk 1 o' none)) m c1) ca fa ch se ro le lc))) [.skip 6, .b true, .skip 1, .b true, .skip 1, .b true, .skip 1, .b true, .skip 1, .b true, .skip 1, .b true] True) (Exit.normal) 98 [(1, Value.pointer (some (Addr.mk 2 0 none))), (2, Value.int IntKind.i64 0), (3, Value.int IntKind.i64 (↑n : Int)), (4, Value.bool (decide ((↑n : Int) ≤ 7)))] [(0, AObj.rov vs), (1, AObj.rov us), (2, AObj.cells [Value.slice (some (Addr.mk 0 o none)) n c0, Value.slice (some (Addr.mk 1 o' none)) m c1, Value.int IntKind.i64 ca, Value.float FloatKind.f64 fa, Value.int IntKind.i64 ch, Value.int IntKind.i64 se, Value.int IntKind.i64 ro, Value.int IntKind.u32 le, Value.int IntKind.u32 lc] 0)] 3 :=
  cameF_of (O := ((((((True ∧ (((↑n : Int) == (↑m : Int)) == true) = true) ∧ (((↑n : Int) == (↑m : Int)) == true) = true) ∧ ((↑n : Int) == (↑m : Int)) = true) ∧ (decide ((↑n : Int) ≥ 1) == true) = true) ∧ (decide ((↑n : Int) ≥ 1) == true) = true) ∧ decide ((↑n : Int) ≥ 1) = true)) (by kernel_rfl) ⟨⟨⟨⟨⟨⟨trivial, gd h0 rfl⟩, gd h0 rfl⟩, h0⟩, gd h1 rfl⟩, gd h1 rfl⟩, h1⟩

theorem e5a_1 (vs : List Value) (us : List Value) (o : Nat) (o' : Nat) (c0 : Nat) (c1 : Nat) (n : Nat) (m : Nat) (ca : Int) (fa : Nat) (ch : Int) (se : Int) (ro : Int) (le : Int) (lc : Int) (h0 : ((↑n : Int) == (↑m : Int)) = true) (h1 : decide ((↑n : Int) ≥ 1) = false) :
    Ran (codeO Tryz.prog E1 (sm0) noRun 100 5 [0, 1, 1] (codeAt Tryz.f5 [0, 1, 1]) (mkFr 98 (t5 [(3, Value.int IntKind.i64 (↑n : Int))])) (mkHp 3 (o5 vs us (cf (Value.slice (some (Addr.mk 0 o none)) n c0) (Value.slice (some (Addr.mk 1 o' none)) m c1) ca fa ch se ro le lc))) [.skip 6, .b true, .skip 1, .b true, .skip 1, .b true, .skip 1, .b false, .b false, .b false] True) (Exit.normal) 98 [(1, Value.pointer (some (Addr.mk 2 0 none))), (2, Value.int IntKind.i64 0), (3, Value.int IntKind.i64 (↑n : Int)), (4, Value.bool false)] [(0, AObj.rov vs), (1, AObj.rov us), (2, AObj.cells [Value.slice (some (Addr.mk 0 o none)) n c0, Value.slice (some (Addr.mk 1 o' none)) m c1, Value.int IntKind.i64 ca, Value.float FloatKind.f64 fa, Value.int IntKind.i64 ch, Value.int IntKind.i64 se, Value.int IntKind.i64 ro, Value.int IntKind.u32 le, Value.int IntKind.u32 lc] 0)] 3 :=
  cameF_of (O := ((((((True ∧ (((↑n : Int) == (↑m : Int)) == true) = true) ∧ (((↑n : Int) == (↑m : Int)) == true) = true) ∧ ((↑n : Int) == (↑m : Int)) = true) ∧ (decide ((↑n : Int) ≥ 1) == true) = false) ∧ (decide ((↑n : Int) ≥ 1) == true) = false) ∧ decide ((↑n : Int) ≥ 1) = false)) (by kernel_rfl) ⟨⟨⟨⟨⟨⟨trivial, gd h0 rfl⟩, gd h0 rfl⟩, h0⟩, gd h1 rfl⟩, gd h1 rfl⟩, h1⟩

theorem e5a_2 (vs : List Value) (us : List Value) (o : Nat) (o' : Nat) (c0 : Nat) (c1 : Nat) (n : Nat) (m : Nat) (ca : Int) (fa : Nat) (ch : Int) (se : Int) (ro : Int) (le : Int) (lc : Int) (h0 : ((↑n : Int) == (↑m : Int)) = false) :
    Ran (codeO Tryz.prog E1 (sm0) noRun 100 5 [0, 1, 1] (codeAt Tryz.f5 [0, 1, 1]) (mkFr 98 (t5 [(3, Value.int IntKind.i64 (↑n : Int))])) (mkHp 3 (o5 vs us (cf (Value.slice (some (Addr.mk 0 o none)) n c0) (Value.slice (some (Addr.mk 1 o' none)) m c1) ca fa ch se ro le lc))) [.skip 6, .b false, .b false, .b false] True) (Exit.normal) 98 [(1, Value.pointer (some (Addr.mk 2 0 none))), (2, Value.int IntKind.i64 0), (3, Value.int IntKind.i64 (↑n : Int)), (4, Value.bool false)] [(0, AObj.rov vs), (1, AObj.rov us), (2, AObj.cells [Value.slice (some (Addr.mk 0 o none)) n c0, Value.slice (some (Addr.mk 1 o' none)) m c1, Value.int IntKind.i64 ca, Value.float FloatKind.f64 fa, Value.int IntKind.i64 ch, Value.int IntKind.i64 se, Value.int IntKind.i64 ro, Value.int IntKind.u32 le, Value.int IntKind.u32 lc] 0)] 3 :=
  cameF_of (O := (((True ∧ (((↑n : Int) == (↑m : Int)) == true) = false) ∧ (((↑n : Int) == (↑m : Int)) == true) = false) ∧ ((↑n : Int) == (↑m : Int)) = false)) (by kernel_rfl) ⟨⟨⟨trivial, gd h0 rfl⟩, gd h0 rfl⟩, h0⟩
theorem e5b_0 (vs : List Value) (us : List Value) (s0 : Value) (s1 : Value) (n : Nat) (b1 : Bool) (ca : Int) (fa : Nat) (ch : Int) (se : Int) (ro : Int) (le : Int) (lc : Int) (h0 : decide (ca ≥ 0) = true) (h1 : decide (ca ≤ 64) = true) (h2 : decide (ch ≥ 16) = true) :
    Ran (codeO Tryz.prog E1 (sm0) noRun 100 5 [0, 1, 1, 1] (codeAt Tryz.f5 [0, 1, 1, 1]) (mkFr 98 (t5 [(3, Value.int IntKind.i64 (↑n : Int)), (4, Value.bool b1)])) (mkHp 3 (o5 vs us (cf s0 s1 ca fa ch se ro le lc))) [.skip 4, .b true, .skip 1, .b true, .skip 1, .b true, .skip 1, .b true, .skip 1, .b true, .skip 1, .b true, .skip 1, .b true, .skip 1, .b true, .skip 1, .b true, .skip 1, .b true, .skip 1, .b true, .skip 1, .b true] True) (Exit.normal) 98 [(1, Value.pointer (some (Addr.mk 2 0 none))), (2, Value.int IntKind.i64 0), (3, Value.int IntKind.i64 (↑n : Int)), (4, Value.bool b1), (5, Value.bool (decide (ch ≤ 4096)))] [(0, AObj.rov vs), (1, AObj.rov us), (2, AObj.cells [s0, s1, Value.int IntKind.i64 ca, Value.float FloatKind.f64 fa, Value.int IntKind.i64 ch, Value.int IntKind.i64 se, Value.int IntKind.i64 ro, Value.int IntKind.u32 le, Value.int IntKind.u32 lc] 0)] 3 :=
  cameF_of (O := ((((((((((((True ∧ (decide (ca ≥ 0) == true) = true) ∧ (decide (ca ≥ 0) == true) = true) ∧ (decide (ca ≥ 0) == true) = true) ∧ decide (ca ≥ 0) = true) ∧ (decide (ca ≤ 64) == true) = true) ∧ (decide (ca ≤ 64) == true) = true) ∧ (decide (ca ≤ 64) == true) = true) ∧ decide (ca ≤ 64) = true) ∧ (decide (ch ≥ 16) == true) = true) ∧ (decide (ch ≥ 16) == true) = true) ∧ (decide (ch ≥ 16) == true) = true) ∧ decide (ch ≥ 16) = true)) (by kernel_rfl) ⟨⟨⟨⟨⟨⟨⟨⟨⟨⟨⟨⟨trivial, gd h0 rfl⟩, gd h0 rfl⟩, gd h0 rfl⟩, h0⟩, gd h1 rfl⟩, gd h1 rfl⟩, gd h1 rfl⟩, h1⟩, gd h2 rfl⟩, gd h2 rfl⟩, gd h2 rfl⟩, h2⟩

theorem e5b_1 (vs : List Value) (us : List Value) (s0 : Value) (s1 : Value) (n : Nat) (b1 : Bool) (ca : Int) (fa : Nat) (ch : Int) (se : Int) (ro : Int) (le : Int) (lc : Int) (h0 : decide (ca ≥ 0) = true) (h1 : decide (ca ≤ 64) = true) (h2 : decide (ch ≥ 16) = false) :
    Ran (codeO Tryz.prog E1 (sm0) noRun 100 5 [0, 1, 1, 1] (codeAt Tryz.f5 [0, 1, 1, 1]) (mkFr 98 (t5 [(3, Value.int IntKind.i64 (↑n : Int)), (4, Value.bool b1)])) (mkHp 3 (o5 vs us (cf s0 s1 ca fa ch se ro le lc))) [.skip 4, .b true, .skip 1, .b true, .skip 1, .b true, .skip 1, .b true, .skip 1, .b true, .skip 1, .b true, .skip 1, .b true, .skip 1, .b true, .skip 1, .b false, .b false, .b false, .b false] True) (Exit.normal) 98 [(1, Value.pointer (some (Addr.mk 2 0 none))), (2, Value.int IntKind.i64 0), (3, Value.int IntKind.i64 (↑n : Int)), (4, Value.bool b1), (5, Value.bool false)] [(0, AObj.rov vs), (1, AObj.rov us), (2, AObj.cells [s0, s1, Value.int IntKind.i64 ca, Value.float FloatKind.f64 fa, Value.int IntKind.i64 ch, Value.int IntKind.i64 se, Value.int IntKind.i64 ro, Value.int IntKind.u32 le, Value.int IntKind.u32 lc] 0)] 3 :=
  cameF_of (O := ((((((((((((True ∧ (decide (ca ≥ 0) == true) = true) ∧ (decide (ca ≥ 0) == true) = true) ∧ (decide (ca ≥ 0) == true) = true) ∧ decide (ca ≥ 0) = true) ∧ (decide (ca ≤ 64) == true) = true) ∧ (decide (ca ≤ 64) == true) = true) ∧ (decide (ca ≤ 64) == true) = true) ∧ decide (ca ≤ 64) = true) ∧ (decide (ch ≥ 16) == true) = false) ∧ (decide (ch ≥ 16) == true) = false) ∧ (decide (ch ≥ 16) == true) = false) ∧ decide (ch ≥ 16) = false)) (by kernel_rfl) ⟨⟨⟨⟨⟨⟨⟨⟨⟨⟨⟨⟨trivial, gd h0 rfl⟩, gd h0 rfl⟩, gd h0 rfl⟩, h0⟩, gd h1 rfl⟩, gd h1 rfl⟩, gd h1 rfl⟩, h1⟩, gd h2 rfl⟩, gd h2 rfl⟩, gd h2 rfl⟩, h2⟩

theorem e5b_2 (vs : List Value) (us : List Value) (s0 : Value) (s1 : Value) (n : Nat) (b1 : Bool) (ca : Int) (fa : Nat) (ch : Int) (se : Int) (ro : Int) (le : Int) (lc : Int) (h0 : decide (ca ≥ 0) = true) (h1 : decide (ca ≤ 64) = false) :
    Ran (codeO Tryz.prog E1 (sm0) noRun 100 5 [0, 1, 1, 1] (codeAt Tryz.f5 [0, 1, 1, 1]) (mkFr 98 (t5 [(3, Value.int IntKind.i64 (↑n : Int)), (4, Value.bool b1)])) (mkHp 3 (o5 vs us (cf s0 s1 ca fa ch se ro le lc))) [.skip 4, .b true, .skip 1, .b true, .skip 1, .b true, .skip 1, .b true, .skip 1, .b false, .b false, .b false, .b false] True) (Exit.normal) 98 [(1, Value.pointer (some (Addr.mk 2 0 none))), (2, Value.int IntKind.i64 0), (3, Value.int IntKind.i64 (↑n : Int)), (4, Value.bool b1), (5, Value.bool false)] [(0, AObj.rov vs), (1, AObj.rov us), (2, AObj.cells [s0, s1, Value.int IntKind.i64 ca, Value.float FloatKind.f64 fa, Value.int IntKind.i64 ch, Value.int IntKind.i64 se, Value.int IntKind.i64 ro, Value.int IntKind.u32 le, Value.int IntKind.u32 lc] 0)] 3 :=
  cameF_of (O := ((((((((True ∧ (decide (ca ≥ 0) == true) = true) ∧ (decide (ca ≥ 0) == true) = true) ∧ (decide (ca ≥ 0) == true) = true) ∧ decide (ca ≥ 0) = true) ∧ (decide (ca ≤ 64) == true) = false) ∧ (decide (ca ≤ 64) == true) = false) ∧ (decide (ca ≤ 64) == true) = false) ∧ decide (ca ≤ 64) = false)) (by kernel_rfl) ⟨⟨⟨⟨⟨⟨⟨⟨trivial, gd h0 rfl⟩, gd h0 rfl⟩, gd h0 rfl⟩, h0⟩, gd h1 rfl⟩, gd h1 rfl⟩, gd h1 rfl⟩, h1⟩

theorem e5b_3 (vs : List Value) (us : List Value) (s0 : Value) (s1 : Value) (n : Nat) (b1 : Bool) (ca : Int) (fa : Nat) (ch : Int) (se : Int) (ro : Int) (le : Int) (lc : Int) (h0 : decide (ca ≥ 0) = false) :
    Ran (codeO Tryz.prog E1 (sm0) noRun 100 5 [0, 1, 1, 1] (codeAt Tryz.f5 [0, 1, 1, 1]) (mkFr 98 (t5 [(3, Value.int IntKind.i64 (↑n : Int)), (4, Value.bool b1)])) (mkHp 3 (o5 vs us (cf s0 s1 ca fa ch se ro le lc))) [.skip 4, .b false, .b false, .b false, .b false] True) (Exit.normal) 98 [(1, Value.pointer (some (Addr.mk 2 0 none))), (2, Value.int IntKind.i64 0), (3, Value.int IntKind.i64 (↑n : Int)), (4, Value.bool b1), (5, Value.bool false)] [(0, AObj.rov vs), (1, AObj.rov us), (2, AObj.cells [s0, s1, Value.int IntKind.i64 ca, Value.float FloatKind.f64 fa, Value.int IntKind.i64 ch, Value.int IntKind.i64 se, Value.int IntKind.i64 ro, Value.int IntKind.u32 le, Value.int IntKind.u32 lc] 0)] 3 :=
  cameF_of (O := ((((True ∧ (decide (ca ≥ 0) == true) = false) ∧ (decide (ca ≥ 0) == true) = false) ∧ (decide (ca ≥ 0) == true) = false) ∧ decide (ca ≥ 0) = false)) (by kernel_rfl) ⟨⟨⟨⟨trivial, gd h0 rfl⟩, gd h0 rfl⟩, gd h0 rfl⟩, h0⟩
theorem e5c_0 (vs : List Value) (us : List Value) (s0 : Value) (s1 : Value) (n : Nat) (b1 : Bool) (b2 : Bool) (ca : Int) (fa : Nat) (ch : Int) (se : Int) (ro : Int) (le : Int) (lc : Int) (h0 : decide (se ≥ 1) = true) (h1 : decide (se ≤ 64) = true) (h2 : decide (ro ≥ 0) = true) :
    Ran (codeO Tryz.prog E1 (sm0) noRun 100 5 [0, 1, 1, 1, 1] (codeAt Tryz.f5 [0, 1, 1, 1, 1]) (mkFr 98 (t5 [(3, Value.int IntKind.i64 (↑n : Int)), (4, Value.bool b1), (5, Value.bool b2)])) (mkHp 3 (o5 vs us (cf s0 s1 ca fa ch se ro le lc))) [.skip 4, .b true, .skip 1, .b true, .skip 1, .b true, .skip 1, .b true, .skip 1, .b true, .skip 1, .b true, .skip 1, .b true, .skip 1, .b true, .skip 1, .b true, .skip 1, .b true, .skip 1, .b true, .skip 1, .b true] True) (Exit.normal) 98 [(1, Value.pointer (some (Addr.mk 2 0 none))), (2, Value.int IntKind.i64 0), (3, Value.int IntKind.i64 (↑n : Int)), (4, Value.bool b1), (5, Value.bool b2), (6, Value.bool (decide (ro ≤ 16777216)))] [(0, AObj.rov vs), (1, AObj.rov us), (2, AObj.cells [s0, s1, Value.int IntKind.i64 ca, Value.float FloatKind.f64 fa, Value.int IntKind.i64 ch, Value.int IntKind.i64 se, Value.int IntKind.i64 ro, Value.int IntKind.u32 le, Value.int IntKind.u32 lc] 0)] 3 :=
  cameF_of (O := ((((((((((((True ∧ (decide (se ≥ 1) == true) = true) ∧ (decide (se ≥ 1) == true) = true) ∧ (decide (se ≥ 1) == true) = true) ∧ decide (se ≥ 1) = true) ∧ (decide (se ≤ 64) == true) = true) ∧ (decide (se ≤ 64) == true) = true) ∧ (decide (se ≤ 64) == true) = true) ∧ decide (se ≤ 64) = true) ∧ (decide (ro ≥ 0) == true) = true) ∧ (decide (ro ≥ 0) == true) = true) ∧ (decide (ro ≥ 0) == true) = true) ∧ decide (ro ≥ 0) = true)) (by kernel_rfl) ⟨⟨⟨⟨⟨⟨⟨⟨⟨⟨⟨⟨trivial, gd h0 rfl⟩, gd h0 rfl⟩, gd h0 rfl⟩, h0⟩, gd h1 rfl⟩, gd h1 rfl⟩, gd h1 rfl⟩, h1⟩, gd h2 rfl⟩, gd h2 rfl⟩, gd h2 rfl⟩, h2⟩

theorem e5c_1 (vs : List Value) (us : List Value) (s0 : Value) (s1 : Value) (n : Nat) (b1 : Bool) (b2 : Bool) (ca : Int) (fa : Nat) (ch : Int) (se : Int) (ro : Int) (le : Int) (lc : Int) (h0 : decide (se ≥ 1) = true) (h1 : decide (se ≤ 64) = true) (h2 : decide (ro ≥ 0) = false) :
    Ran (codeO Tryz.prog E1 (sm0) noRun 100 5 [0, 1, 1, 1, 1] (codeAt Tryz.f5 [0, 1, 1, 1, 1]) (mkFr 98 (t5 [(3, Value.int IntKind.i64 (↑n : Int)), (4, Value.bool b1), (5, Value.bool b2)])) (mkHp 3 (o5 vs us (cf s0 s1 ca fa ch se ro le lc))) [.skip 4, .b true, .skip 1, .b true, .skip 1, .b true, .skip 1, .b true, .skip 1, .b true, .skip 1, .b true, .skip 1, .b true, .skip 1, .b true, .skip 1, .b false, .b false, .b false, .b false] True) (Exit.normal) 98 [(1, Value.pointer (some (Addr.mk 2 0 none))), (2, Value.int IntKind.i64 0), (3, Value.int IntKind.i64 (↑n : Int)), (4, Value.bool b1), (5, Value.bool b2), (6, Value.bool false)] [(0, AObj.rov vs), (1, AObj.rov us), (2, AObj.cells [s0, s1, Value.int IntKind.i64 ca, Value.float FloatKind.f64 fa, Value.int IntKind.i64 ch, Value.int IntKind.i64 se, Value.int IntKind.i64 ro, Value.int IntKind.u32 le, Value.int IntKind.u32 lc] 0)] 3 :=
  cameF_of (O := ((((((((((((True ∧ (decide (se ≥ 1) == true) = true) ∧ (decide (se ≥ 1) == true) = true) ∧ (decide (se ≥ 1) == true) = true) ∧ decide (se ≥ 1) = true) ∧ (decide (se ≤ 64) == true) = true) ∧ (decide (se ≤ 64) == true) = true) ∧ (decide (se ≤ 64) == true) = true) ∧ decide (se ≤ 64) = true) ∧ (decide (ro ≥ 0) == true) = false) ∧ (decide (ro ≥ 0) == true) = false) ∧ (decide (ro ≥ 0) == true) = false) ∧ decide (ro ≥ 0) = false)) (by kernel_rfl) ⟨⟨⟨⟨⟨⟨⟨⟨⟨⟨⟨⟨trivial, gd h0 rfl⟩, gd h0 rfl⟩, gd h0 rfl⟩, h0⟩, gd h1 rfl⟩, gd h1 rfl⟩, gd h1 rfl⟩, h1⟩, gd h2 rfl⟩, gd h2 rfl⟩, gd h2 rfl⟩, h2⟩

theorem e5c_2 (vs : List Value) (us : List Value) (s0 : Value) (s1 : Value) (n : Nat) (b1 : Bool) (b2 : Bool) (ca : Int) (fa : Nat) (ch : Int) (se : Int) (ro : Int) (le : Int) (lc : Int) (h0 : decide (se ≥ 1) = true) (h1 : decide (se ≤ 64) = false) :
    Ran (codeO Tryz.prog E1 (sm0) noRun 100 5 [0, 1, 1, 1, 1] (codeAt Tryz.f5 [0, 1, 1, 1, 1]) (mkFr 98 (t5 [(3, Value.int IntKind.i64 (↑n : Int)), (4, Value.bool b1), (5, Value.bool b2)])) (mkHp 3 (o5 vs us (cf s0 s1 ca fa ch se ro le lc))) [.skip 4, .b true, .skip 1, .b true, .skip 1, .b true, .skip 1, .b true, .skip 1, .b false, .b false, .b false, .b false] True) (Exit.normal) 98 [(1, Value.pointer (some (Addr.mk 2 0 none))), (2, Value.int IntKind.i64 0), (3, Value.int IntKind.i64 (↑n : Int)), (4, Value.bool b1), (5, Value.bool b2), (6, Value.bool false)] [(0, AObj.rov vs), (1, AObj.rov us), (2, AObj.cells [s0, s1, Value.int IntKind.i64 ca, Value.float FloatKind.f64 fa, Value.int IntKind.i64 ch, Value.int IntKind.i64 se, Value.int IntKind.i64 ro, Value.int IntKind.u32 le, Value.int IntKind.u32 lc] 0)] 3 :=
  cameF_of (O := ((((((((True ∧ (decide (se ≥ 1) == true) = true) ∧ (decide (se ≥ 1) == true) = true) ∧ (decide (se ≥ 1) == true) = true) ∧ decide (se ≥ 1) = true) ∧ (decide (se ≤ 64) == true) = false) ∧ (decide (se ≤ 64) == true) = false) ∧ (decide (se ≤ 64) == true) = false) ∧ decide (se ≤ 64) = false)) (by kernel_rfl) ⟨⟨⟨⟨⟨⟨⟨⟨trivial, gd h0 rfl⟩, gd h0 rfl⟩, gd h0 rfl⟩, h0⟩, gd h1 rfl⟩, gd h1 rfl⟩, gd h1 rfl⟩, h1⟩

theorem e5c_3 (vs : List Value) (us : List Value) (s0 : Value) (s1 : Value) (n : Nat) (b1 : Bool) (b2 : Bool) (ca : Int) (fa : Nat) (ch : Int) (se : Int) (ro : Int) (le : Int) (lc : Int) (h0 : decide (se ≥ 1) = false) :
    Ran (codeO Tryz.prog E1 (sm0) noRun 100 5 [0, 1, 1, 1, 1] (codeAt Tryz.f5 [0, 1, 1, 1, 1]) (mkFr 98 (t5 [(3, Value.int IntKind.i64 (↑n : Int)), (4, Value.bool b1), (5, Value.bool b2)])) (mkHp 3 (o5 vs us (cf s0 s1 ca fa ch se ro le lc))) [.skip 4, .b false, .b false, .b false, .b false] True) (Exit.normal) 98 [(1, Value.pointer (some (Addr.mk 2 0 none))), (2, Value.int IntKind.i64 0), (3, Value.int IntKind.i64 (↑n : Int)), (4, Value.bool b1), (5, Value.bool b2), (6, Value.bool false)] [(0, AObj.rov vs), (1, AObj.rov us), (2, AObj.cells [s0, s1, Value.int IntKind.i64 ca, Value.float FloatKind.f64 fa, Value.int IntKind.i64 ch, Value.int IntKind.i64 se, Value.int IntKind.i64 ro, Value.int IntKind.u32 le, Value.int IntKind.u32 lc] 0)] 3 :=
  cameF_of (O := ((((True ∧ (decide (se ≥ 1) == true) = false) ∧ (decide (se ≥ 1) == true) = false) ∧ (decide (se ≥ 1) == true) = false) ∧ decide (se ≥ 1) = false)) (by kernel_rfl) ⟨⟨⟨⟨trivial, gd h0 rfl⟩, gd h0 rfl⟩, gd h0 rfl⟩, h0⟩
theorem e5d_0 (vs : List Value) (us : List Value) (s0 : Value) (s1 : Value) (n : Nat) (b1 : Bool) (b2 : Bool) (b3 : Bool) (ca : Int) (fa : Nat) (ch : Int) (se : Int) (ro : Int) (le : Int) (lc : Int) (h0 : decide (le ≥ 1) = true) (h1 : decide (le ≤ 2147483647) = true) :
    Ran (codeO Tryz.prog E1 (sm0) noRun 100 5 [0, 1, 1, 1, 1, 1] (codeAt Tryz.f5 [0, 1, 1, 1, 1, 1]) (mkFr 98 (t5 [(3, Value.int IntKind.i64 (↑n : Int)), (4, Value.bool b1), (5, Value.bool b2), (6, Value.bool b3)])) (mkHp 3 (o5 vs us (cf s0 s1 ca fa ch se ro le lc))) [.skip 4, .b true, .skip 1, .b true, .skip 1, .b true, .skip 1, .b true, .skip 1, .b true, .skip 1, .b true, .skip 1, .b true, .skip 1, .b true] True) (Exit.normal) 98 [(1, Value.pointer (some (Addr.mk 2 0 none))), (2, Value.int IntKind.i64 0), (3, Value.int IntKind.i64 (↑n : Int)), (4, Value.bool b1), (5, Value.bool b2), (6, Value.bool b3), (7, Value.bool (decide (lc ≥ 1)))] [(0, AObj.rov vs), (1, AObj.rov us), (2, AObj.cells [s0, s1, Value.int IntKind.i64 ca, Value.float FloatKind.f64 fa, Value.int IntKind.i64 ch, Value.int IntKind.i64 se, Value.int IntKind.i64 ro, Value.int IntKind.u32 le, Value.int IntKind.u32 lc] 0)] 3 :=
  cameF_of (O := ((((((((True ∧ (decide (le ≥ 1) == true) = true) ∧ (decide (le ≥ 1) == true) = true) ∧ (decide (le ≥ 1) == true) = true) ∧ decide (le ≥ 1) = true) ∧ (decide (le ≤ 2147483647) == true) = true) ∧ (decide (le ≤ 2147483647) == true) = true) ∧ (decide (le ≤ 2147483647) == true) = true) ∧ decide (le ≤ 2147483647) = true)) (by kernel_rfl) ⟨⟨⟨⟨⟨⟨⟨⟨trivial, gd h0 rfl⟩, gd h0 rfl⟩, gd h0 rfl⟩, h0⟩, gd h1 rfl⟩, gd h1 rfl⟩, gd h1 rfl⟩, h1⟩

theorem e5d_1 (vs : List Value) (us : List Value) (s0 : Value) (s1 : Value) (n : Nat) (b1 : Bool) (b2 : Bool) (b3 : Bool) (ca : Int) (fa : Nat) (ch : Int) (se : Int) (ro : Int) (le : Int) (lc : Int) (h0 : decide (le ≥ 1) = true) (h1 : decide (le ≤ 2147483647) = false) :
    Ran (codeO Tryz.prog E1 (sm0) noRun 100 5 [0, 1, 1, 1, 1, 1] (codeAt Tryz.f5 [0, 1, 1, 1, 1, 1]) (mkFr 98 (t5 [(3, Value.int IntKind.i64 (↑n : Int)), (4, Value.bool b1), (5, Value.bool b2), (6, Value.bool b3)])) (mkHp 3 (o5 vs us (cf s0 s1 ca fa ch se ro le lc))) [.skip 4, .b true, .skip 1, .b true, .skip 1, .b true, .skip 1, .b true, .skip 1, .b false, .b false, .b false, .b false] True) (Exit.normal) 98 [(1, Value.pointer (some (Addr.mk 2 0 none))), (2, Value.int IntKind.i64 0), (3, Value.int IntKind.i64 (↑n : Int)), (4, Value.bool b1), (5, Value.bool b2), (6, Value.bool b3), (7, Value.bool false)] [(0, AObj.rov vs), (1, AObj.rov us), (2, AObj.cells [s0, s1, Value.int IntKind.i64 ca, Value.float FloatKind.f64 fa, Value.int IntKind.i64 ch, Value.int IntKind.i64 se, Value.int IntKind.i64 ro, Value.int IntKind.u32 le, Value.int IntKind.u32 lc] 0)] 3 :=
  cameF_of (O := ((((((((True ∧ (decide (le ≥ 1) == true) = true) ∧ (decide (le ≥ 1) == true) = true) ∧ (decide (le ≥ 1) == true) = true) ∧ decide (le ≥ 1) = true) ∧ (decide (le ≤ 2147483647) == true) = false) ∧ (decide (le ≤ 2147483647) == true) = false) ∧ (decide (le ≤ 2147483647) == true) = false) ∧ decide (le ≤ 2147483647) = false)) (by kernel_rfl) ⟨⟨⟨⟨⟨⟨⟨⟨trivial, gd h0 rfl⟩, gd h0 rfl⟩, gd h0 rfl⟩, h0⟩, gd h1 rfl⟩, gd h1 rfl⟩, gd h1 rfl⟩, h1⟩

theorem e5d_2 (vs : List Value) (us : List Value) (s0 : Value) (s1 : Value) (n : Nat) (b1 : Bool) (b2 : Bool) (b3 : Bool) (ca : Int) (fa : Nat) (ch : Int) (se : Int) (ro : Int) (le : Int) (lc : Int) (h0 : decide (le ≥ 1) = false) :
    Ran (codeO Tryz.prog E1 (sm0) noRun 100 5 [0, 1, 1, 1, 1, 1] (codeAt Tryz.f5 [0, 1, 1, 1, 1, 1]) (mkFr 98 (t5 [(3, Value.int IntKind.i64 (↑n : Int)), (4, Value.bool b1), (5, Value.bool b2), (6, Value.bool b3)])) (mkHp 3 (o5 vs us (cf s0 s1 ca fa ch se ro le lc))) [.skip 4, .b false, .b false, .b false, .b false] True) (Exit.normal) 98 [(1, Value.pointer (some (Addr.mk 2 0 none))), (2, Value.int IntKind.i64 0), (3, Value.int IntKind.i64 (↑n : Int)), (4, Value.bool b1), (5, Value.bool b2), (6, Value.bool b3), (7, Value.bool false)] [(0, AObj.rov vs), (1, AObj.rov us), (2, AObj.cells [s0, s1, Value.int IntKind.i64 ca, Value.float FloatKind.f64 fa, Value.int IntKind.i64 ch, Value.int IntKind.i64 se, Value.int IntKind.i64 ro, Value.int IntKind.u32 le, Value.int IntKind.u32 lc] 0)] 3 :=
  cameF_of (O := ((((True ∧ (decide (le ≥ 1) == true) = false) ∧ (decide (le ≥ 1) == true) = false) ∧ (decide (le ≥ 1) == true) = false) ∧ decide (le ≥ 1) = false)) (by kernel_rfl) ⟨⟨⟨⟨trivial, gd h0 rfl⟩, gd h0 rfl⟩, gd h0 rfl⟩, h0⟩
end Go.Abs
end

section
set_option linter.unusedVariables false
set_option linter.unusedSimpArgs false
set_option linter.unusedSectionVars false
/-
  ClusterChecks: the program's Check.
-/
namespace Go.Abs
open Go.Proofs
set_option maxRecDepth 100000
set_option maxHeartbeats 4000000
set_option linter.unusedVariables false
def b5a (n m : Nat) : Bool := ((n : Int) == (m : Int)) && (decide ((n : Int) ≥ 1) && decide ((n : Int) ≤ 7))
def b5b (ca ch : Int) : Bool := decide (ca ≥ 0) && (decide (ca ≤ 64) && (decide (ch ≥ 16) && decide (ch ≤ 4096)))
def b5c (se ro : Int) : Bool := decide (se ≥ 1) && (decide (se ≤ 64) && (decide (ro ≥ 0) && decide (ro ≤ 16777216)))
def b5d (le lc : Int) : Bool := decide (le ≥ 1) && (decide (le ≤ 2147483647) && decide (lc ≥ 1))
def p5 (x : List (Nat × Value)) (y : Nat × Value) (os : List (Nat × AObj)) : PieceO := piece 98 (t5 x) os 3 .normal (mkFr 98 (t5 (x ++ [y]))) (mkHp 3 os)
def s5 (s : Sm) (vs us c : List Value) (n : Nat) (b1 b2 b3 b4 : Bool) : Sm :=
  withL (withL (withL (withL s 5 [0, 1, 1] (p5 [(3, .int .i64 n)] (4, .bool b1) (o5 vs us c))) 5 [0, 1, 1, 1] (p5 [(3, .int .i64 n), (4, .bool b1)] (5, .bool b2) (o5 vs us c))) 5 [0, 1, 1, 1, 1] (p5 [(3, .int .i64 n), (4, .bool b1), (5, .bool b2)] (6, .bool b3) (o5 vs us c)))
    5 [0, 1, 1, 1, 1, 1] (p5 [(3, .int .i64 n), (4, .bool b1), (5, .bool b2), (6, .bool b3)] (7, .bool b4) (o5 vs us c))
def no17 (o o' c0 c1 n : Nat) (vs us : List Value) : Con := ⟨fun σ => [.slice (some ⟨σ 0, o, none⟩) n c0, .slice (some ⟨σ 1, o', none⟩) n c1], oE vs us, 2, fun _ => .tuple #[.pointer none, .int .i64 200], fun _ => []⟩
def yes17 (o o' c0 c1 n : Nat) (vs us : List Value) (ws gs : List Int) : Con := ⟨fun σ => [.slice (some ⟨σ 0, o, none⟩) n c0, .slice (some ⟨σ 1, o', none⟩) n c1], oE vs us, 2, fun σ => .tuple #[.pointer (some ⟨σ 4, 0, none⟩), .int .i64 0], fun σ => [.cells (ints ws) 1, .cells (ints gs) 1, .cells (cs17 (u17 (σ 2) n) (u17 (σ 3) n) (st17 ws gs n)) 0]⟩
theorem c5x_0 (o : Nat) (o' : Nat) (c0 : Nat) (c1 : Nat) (n : Nat) (m : Nat) (vs : List Value) (us : List Value) (b1 : Bool) (b2 : Bool) (b3 : Bool) (ca : Int) (fa : Nat) (ch : Int) (se : Int) (ro : Int) (le : Int) (lc : Int) (h0 : (!b1) = true) :
    RanC (runO Tryz.prog E1 (s5 sm0 vs us (cf (Value.slice (some (Addr.mk 0 o none)) n c0) (Value.slice (some (Addr.mk 1 o' none)) m c1) ca fa ch se ro le lc) n b1 b2 b3 false) noRun 100 5 [Value.agg (Array.mk (cf (Value.slice (some (Addr.mk 0 o none)) n c0) (Value.slice (some (Addr.mk 1 o' none)) m c1) ca fa ch se ro le lc))] (mkHp 2 (oE vs us)) [.skip 9, .b false, .b false, .b true] True) (.returned (Value.int IntKind.i64 1)) [(0, AObj.rov vs), (1, AObj.rov us), (2, AObj.cells [Value.slice (some (Addr.mk 0 o none)) n c0, Value.slice (some (Addr.mk 1 o' none)) m c1, Value.int IntKind.i64 ca, Value.float FloatKind.f64 fa, Value.int IntKind.i64 ch, Value.int IntKind.i64 se, Value.int IntKind.i64 ro, Value.int IntKind.u32 le, Value.int IntKind.u32 lc] 0)] 3 :=
  cameCF_of (O := (((((((True ∧ SelfP 98 (t5 [(3, Value.int IntKind.i64 (↑n : Int))]) (o5 vs us (cf (Value.slice (some (Addr.mk 0 o none)) n c0) (Value.slice (some (Addr.mk 1 o' none)) m c1) ca fa ch se ro le lc)) 3) ∧ SelfP 98 (t5 [(3, Value.int IntKind.i64 (↑n : Int)), (4, Value.bool b1)]) (o5 vs us (cf (Value.slice (some (Addr.mk 0 o none)) n c0) (Value.slice (some (Addr.mk 1 o' none)) m c1) ca fa ch se ro le lc)) 3) ∧ SelfP 98 (t5 [(3, Value.int IntKind.i64 (↑n : Int)), (4, Value.bool b1), (5, Value.bool b2)]) (o5 vs us (cf (Value.slice (some (Addr.mk 0 o none)) n c0) (Value.slice (some (Addr.mk 1 o' none)) m c1) ca fa ch se ro le lc)) 3) ∧ SelfP 98 (t5 [(3, Value.int IntKind.i64 (↑n : Int)), (4, Value.bool b1), (5, Value.bool b2), (6, Value.bool b3)]) (o5 vs us (cf (Value.slice (some (Addr.mk 0 o none)) n c0) (Value.slice (some (Addr.mk 1 o' none)) m c1) ca fa ch se ro le lc)) 3) ∧ ((!b1) == false) = false) ∧ ((!b1) == false) = false) ∧ (!b1) = true)) (by kernel_rfl) ⟨⟨⟨⟨⟨⟨⟨trivial, selfP_true _ _ _ _⟩, selfP_true _ _ _ _⟩, selfP_true _ _ _ _⟩, selfP_true _ _ _ _⟩, gd h0 rfl⟩, gd h0 rfl⟩, h0⟩

theorem c5x_1 (o : Nat) (o' : Nat) (c0 : Nat) (c1 : Nat) (n : Nat) (m : Nat) (vs : List Value) (us : List Value) (b1 : Bool) (b2 : Bool) (b3 : Bool) (ca : Int) (fa : Nat) (ch : Int) (se : Int) (ro : Int) (le : Int) (lc : Int) (h0 : (!b1) = false) (h1 : (!b2) = true) :
    RanC (runO Tryz.prog E1 (s5 sm0 vs us (cf (Value.slice (some (Addr.mk 0 o none)) n c0) (Value.slice (some (Addr.mk 1 o' none)) m c1) ca fa ch se ro le lc) n b1 b2 b3 false) noRun 100 5 [Value.agg (Array.mk (cf (Value.slice (some (Addr.mk 0 o none)) n c0) (Value.slice (some (Addr.mk 1 o' none)) m c1) ca fa ch se ro le lc))] (mkHp 2 (oE vs us)) [.skip 9, .b true, .skip 1, .b true, .skip 1, .b false, .skip 1, .b false, .b false, .b true] True) (.returned (Value.int IntKind.i64 1)) [(0, AObj.rov vs), (1, AObj.rov us), (2, AObj.cells [Value.slice (some (Addr.mk 0 o none)) n c0, Value.slice (some (Addr.mk 1 o' none)) m c1, Value.int IntKind.i64 ca, Value.float FloatKind.f64 fa, Value.int IntKind.i64 ch, Value.int IntKind.i64 se, Value.int IntKind.i64 ro, Value.int IntKind.u32 le, Value.int IntKind.u32 lc] 0)] 3 :=
  cameCF_of (O := ((((((((((True ∧ SelfP 98 (t5 [(3, Value.int IntKind.i64 (↑n : Int))]) (o5 vs us (cf (Value.slice (some (Addr.mk 0 o none)) n c0) (Value.slice (some (Addr.mk 1 o' none)) m c1) ca fa ch se ro le lc)) 3) ∧ SelfP 98 (t5 [(3, Value.int IntKind.i64 (↑n : Int)), (4, Value.bool b1)]) (o5 vs us (cf (Value.slice (some (Addr.mk 0 o none)) n c0) (Value.slice (some (Addr.mk 1 o' none)) m c1) ca fa ch se ro le lc)) 3) ∧ SelfP 98 (t5 [(3, Value.int IntKind.i64 (↑n : Int)), (4, Value.bool b1), (5, Value.bool b2)]) (o5 vs us (cf (Value.slice (some (Addr.mk 0 o none)) n c0) (Value.slice (some (Addr.mk 1 o' none)) m c1) ca fa ch se ro le lc)) 3) ∧ SelfP 98 (t5 [(3, Value.int IntKind.i64 (↑n : Int)), (4, Value.bool b1), (5, Value.bool b2), (6, Value.bool b3)]) (o5 vs us (cf (Value.slice (some (Addr.mk 0 o none)) n c0) (Value.slice (some (Addr.mk 1 o' none)) m c1) ca fa ch se ro le lc)) 3) ∧ ((!b1) == false) = true) ∧ ((!b1) == false) = true) ∧ (!b1) = false) ∧ ((!b2) == false) = false) ∧ ((!b2) == false) = false) ∧ (!b2) = true)) (by kernel_rfl) ⟨⟨⟨⟨⟨⟨⟨⟨⟨⟨trivial, selfP_true _ _ _ _⟩, selfP_true _ _ _ _⟩, selfP_true _ _ _ _⟩, selfP_true _ _ _ _⟩, gd h0 rfl⟩, gd h0 rfl⟩, h0⟩, gd h1 rfl⟩, gd h1 rfl⟩, h1⟩

theorem c5x_2 (o : Nat) (o' : Nat) (c0 : Nat) (c1 : Nat) (n : Nat) (m : Nat) (vs : List Value) (us : List Value) (b1 : Bool) (b2 : Bool) (b3 : Bool) (ca : Int) (fa : Nat) (ch : Int) (se : Int) (ro : Int) (le : Int) (lc : Int) (h0 : (!b1) = false) (h1 : (!b2) = false) (h2 : (!b3) = true) :
    RanC (runO Tryz.prog E1 (s5 sm0 vs us (cf (Value.slice (some (Addr.mk 0 o none)) n c0) (Value.slice (some (Addr.mk 1 o' none)) m c1) ca fa ch se ro le lc) n b1 b2 b3 false) noRun 100 5 [Value.agg (Array.mk (cf (Value.slice (some (Addr.mk 0 o none)) n c0) (Value.slice (some (Addr.mk 1 o' none)) m c1) ca fa ch se ro le lc))] (mkHp 2 (oE vs us)) [.skip 9, .b true, .skip 1, .b true, .skip 1, .b false, .skip 1, .b true, .skip 1, .b true, .skip 1, .b false, .skip 1, .b false, .b false, .b true] True) (.returned (Value.int IntKind.i64 1)) [(0, AObj.rov vs), (1, AObj.rov us), (2, AObj.cells [Value.slice (some (Addr.mk 0 o none)) n c0, Value.slice (some (Addr.mk 1 o' none)) m c1, Value.int IntKind.i64 ca, Value.float FloatKind.f64 fa, Value.int IntKind.i64 ch, Value.int IntKind.i64 se, Value.int IntKind.i64 ro, Value.int IntKind.u32 le, Value.int IntKind.u32 lc] 0)] 3 :=
  cameCF_of (O := (((((((((((((True ∧ SelfP 98 (t5 [(3, Value.int IntKind.i64 (↑n : Int))]) (o5 vs us (cf (Value.slice (some (Addr.mk 0 o none)) n c0) (Value.slice (some (Addr.mk 1 o' none)) m c1) ca fa ch se ro le lc)) 3) ∧ SelfP 98 (t5 [(3, Value.int IntKind.i64 (↑n : Int)), (4, Value.bool b1)]) (o5 vs us (cf (Value.slice (some (Addr.mk 0 o none)) n c0) (Value.slice (some (Addr.mk 1 o' none)) m c1) ca fa ch se ro le lc)) 3) ∧ SelfP 98 (t5 [(3, Value.int IntKind.i64 (↑n : Int)), (4, Value.bool b1), (5, Value.bool b2)]) (o5 vs us (cf (Value.slice (some (Addr.mk 0 o none)) n c0) (Value.slice (some (Addr.mk 1 o' none)) m c1) ca fa ch se ro le lc)) 3) ∧ SelfP 98 (t5 [(3, Value.int IntKind.i64 (↑n : Int)), (4, Value.bool b1), (5, Value.bool b2), (6, Value.bool b3)]) (o5 vs us (cf (Value.slice (some (Addr.mk 0 o none)) n c0) (Value.slice (some (Addr.mk 1 o' none)) m c1) ca fa ch se ro le lc)) 3) ∧ ((!b1) == false) = true) ∧ ((!b1) == false) = true) ∧ (!b1) = false) ∧ ((!b2) == false) = true) ∧ ((!b2) == false) = true) ∧ (!b2) = false) ∧ ((!b3) == false) = false) ∧ ((!b3) == false) = false) ∧ (!b3) = true)) (by kernel_rfl) ⟨⟨⟨⟨⟨⟨⟨⟨⟨⟨⟨⟨⟨trivial, selfP_true _ _ _ _⟩, selfP_true _ _ _ _⟩, selfP_true _ _ _ _⟩, selfP_true _ _ _ _⟩, gd h0 rfl⟩, gd h0 rfl⟩, h0⟩, gd h1 rfl⟩, gd h1 rfl⟩, h1⟩, gd h2 rfl⟩, gd h2 rfl⟩, h2⟩

theorem c5x_3 (o : Nat) (o' : Nat) (c0 : Nat) (c1 : Nat) (n : Nat) (m : Nat) (vs : List Value) (us : List Value) (b1 : Bool) (b2 : Bool) (b3 : Bool) (ca : Int) (fa : Nat) (ch : Int) (se : Int) (ro : Int) (le : Int) (lc : Int) (h0 : (!b1) = false) (h1 : (!b2) = false) (h2 : (!b3) = false) :
    RanC (runO Tryz.prog E1 (s5 sm0 vs us (cf (Value.slice (some (Addr.mk 0 o none)) n c0) (Value.slice (some (Addr.mk 1 o' none)) m c1) ca fa ch se ro le lc) n b1 b2 b3 false) noRun 100 5 [Value.agg (Array.mk (cf (Value.slice (some (Addr.mk 0 o none)) n c0) (Value.slice (some (Addr.mk 1 o' none)) m c1) ca fa ch se ro le lc))] (mkHp 2 (oE vs us)) [.skip 9, .b true, .skip 1, .b true, .skip 1, .b false, .skip 1, .b true, .skip 1, .b true, .skip 1, .b false, .skip 1, .b true, .skip 1, .b true, .skip 1, .b false] True) (.returned (Value.int IntKind.i64 1)) [(0, AObj.rov vs), (1, AObj.rov us), (2, AObj.cells [Value.slice (some (Addr.mk 0 o none)) n c0, Value.slice (some (Addr.mk 1 o' none)) m c1, Value.int IntKind.i64 ca, Value.float FloatKind.f64 fa, Value.int IntKind.i64 ch, Value.int IntKind.i64 se, Value.int IntKind.i64 ro, Value.int IntKind.u32 le, Value.int IntKind.u32 lc] 0)] 3 :=
  cameCF_of (O := (((((((((((((True ∧ SelfP 98 (t5 [(3, Value.int IntKind.i64 (↑n : Int))]) (o5 vs us (cf (Value.slice (some (Addr.mk 0 o none)) n c0) (Value.slice (some (Addr.mk 1 o' none)) m c1) ca fa ch se ro le lc)) 3) ∧ SelfP 98 (t5 [(3, Value.int IntKind.i64 (↑n : Int)), (4, Value.bool b1)]) (o5 vs us (cf (Value.slice (some (Addr.mk 0 o none)) n c0) (Value.slice (some (Addr.mk 1 o' none)) m c1) ca fa ch se ro le lc)) 3) ∧ SelfP 98 (t5 [(3, Value.int IntKind.i64 (↑n : Int)), (4, Value.bool b1), (5, Value.bool b2)]) (o5 vs us (cf (Value.slice (some (Addr.mk 0 o none)) n c0) (Value.slice (some (Addr.mk 1 o' none)) m c1) ca fa ch se ro le lc)) 3) ∧ SelfP 98 (t5 [(3, Value.int IntKind.i64 (↑n : Int)), (4, Value.bool b1), (5, Value.bool b2), (6, Value.bool b3)]) (o5 vs us (cf (Value.slice (some (Addr.mk 0 o none)) n c0) (Value.slice (some (Addr.mk 1 o' none)) m c1) ca fa ch se ro le lc)) 3) ∧ ((!b1) == false) = true) ∧ ((!b1) == false) = true) ∧ (!b1) = false) ∧ ((!b2) == false) = true) ∧ ((!b2) == false) = true) ∧ (!b2) = false) ∧ ((!b3) == false) = true) ∧ ((!b3) == false) = true) ∧ (!b3) = false)) (by kernel_rfl) ⟨⟨⟨⟨⟨⟨⟨⟨⟨⟨⟨⟨⟨trivial, selfP_true _ _ _ _⟩, selfP_true _ _ _ _⟩, selfP_true _ _ _ _⟩, selfP_true _ _ _ _⟩, gd h0 rfl⟩, gd h0 rfl⟩, h0⟩, gd h1 rfl⟩, gd h1 rfl⟩, h1⟩, gd h2 rfl⟩, gd h2 rfl⟩, h2⟩
theorem c5y_0 (o : Nat) (o' : Nat) (c0 : Nat) (c1 : Nat) (n : Nat) (m : Nat) (vs : List Value) (us : List Value) (b1 : Bool) (b2 : Bool) (ca : Int) (fa : Nat) (ch : Int) (se : Int) (ro : Int) (le : Int) (lc : Int) (h0 : (!b1) = true) :
    RanC (runO Tryz.prog E1 (s5 sm0 vs us (cf (Value.slice (some (Addr.mk 0 o none)) n c0) (Value.slice (some (Addr.mk 1 o' none)) m c1) ca fa ch se ro le lc) n b1 b2 false true) noRun 100 5 [Value.agg (Array.mk (cf (Value.slice (some (Addr.mk 0 o none)) n c0) (Value.slice (some (Addr.mk 1 o' none)) m c1) ca fa ch se ro le lc))] (mkHp 2 (oE vs us)) [.skip 9, .b false, .b false, .b true] True) (.returned (Value.int IntKind.i64 1)) [(0, AObj.rov vs), (1, AObj.rov us), (2, AObj.cells [Value.slice (some (Addr.mk 0 o none)) n c0, Value.slice (some (Addr.mk 1 o' none)) m c1, Value.int IntKind.i64 ca, Value.float FloatKind.f64 fa, Value.int IntKind.i64 ch, Value.int IntKind.i64 se, Value.int IntKind.i64 ro, Value.int IntKind.u32 le, Value.int IntKind.u32 lc] 0)] 3 :=
  cameCF_of (O := (((((((True ∧ SelfP 98 (t5 [(3, Value.int IntKind.i64 (↑n : Int))]) (o5 vs us (cf (Value.slice (some (Addr.mk 0 o none)) n c0) (Value.slice (some (Addr.mk 1 o' none)) m c1) ca fa ch se ro le lc)) 3) ∧ SelfP 98 (t5 [(3, Value.int IntKind.i64 (↑n : Int)), (4, Value.bool b1)]) (o5 vs us (cf (Value.slice (some (Addr.mk 0 o none)) n c0) (Value.slice (some (Addr.mk 1 o' none)) m c1) ca fa ch se ro le lc)) 3) ∧ SelfP 98 (t5 [(3, Value.int IntKind.i64 (↑n : Int)), (4, Value.bool b1), (5, Value.bool b2)]) (o5 vs us (cf (Value.slice (some (Addr.mk 0 o none)) n c0) (Value.slice (some (Addr.mk 1 o' none)) m c1) ca fa ch se ro le lc)) 3) ∧ SelfP 98 (t5 [(3, Value.int IntKind.i64 (↑n : Int)), (4, Value.bool b1), (5, Value.bool b2), (6, Value.bool false)]) (o5 vs us (cf (Value.slice (some (Addr.mk 0 o none)) n c0) (Value.slice (some (Addr.mk 1 o' none)) m c1) ca fa ch se ro le lc)) 3) ∧ ((!b1) == false) = false) ∧ ((!b1) == false) = false) ∧ (!b1) = true)) (by kernel_rfl) ⟨⟨⟨⟨⟨⟨⟨trivial, selfP_true _ _ _ _⟩, selfP_true _ _ _ _⟩, selfP_true _ _ _ _⟩, selfP_true _ _ _ _⟩, gd h0 rfl⟩, gd h0 rfl⟩, h0⟩

theorem c5y_1 (o : Nat) (o' : Nat) (c0 : Nat) (c1 : Nat) (n : Nat) (m : Nat) (vs : List Value) (us : List Value) (b1 : Bool) (b2 : Bool) (ca : Int) (fa : Nat) (ch : Int) (se : Int) (ro : Int) (le : Int) (lc : Int) (h0 : (!b1) = false) (h1 : (!b2) = true) :
    RanC (runO Tryz.prog E1 (s5 sm0 vs us (cf (Value.slice (some (Addr.mk 0 o none)) n c0) (Value.slice (some (Addr.mk 1 o' none)) m c1) ca fa ch se ro le lc) n b1 b2 false true) noRun 100 5 [Value.agg (Array.mk (cf (Value.slice (some (Addr.mk 0 o none)) n c0) (Value.slice (some (Addr.mk 1 o' none)) m c1) ca fa ch se ro le lc))] (mkHp 2 (oE vs us)) [.skip 9, .b true, .skip 1, .b true, .skip 1, .b false, .skip 1, .b false, .b false, .b true] True) (.returned (Value.int IntKind.i64 1)) [(0, AObj.rov vs), (1, AObj.rov us), (2, AObj.cells [Value.slice (some (Addr.mk 0 o none)) n c0, Value.slice (some (Addr.mk 1 o' none)) m c1, Value.int IntKind.i64 ca, Value.float FloatKind.f64 fa, Value.int IntKind.i64 ch, Value.int IntKind.i64 se, Value.int IntKind.i64 ro, Value.int IntKind.u32 le, Value.int IntKind.u32 lc] 0)] 3 :=
  cameCF_of (O := ((((((((((True ∧ SelfP 98 (t5 [(3, Value.int IntKind.i64 (↑n : Int))]) (o5 vs us (cf (Value.slice (some (Addr.mk 0 o none)) n c0) (Value.slice (some (Addr.mk 1 o' none)) m c1) ca fa ch se ro le lc)) 3) ∧ SelfP 98 (t5 [(3, Value.int IntKind.i64 (↑n : Int)), (4, Value.bool b1)]) (o5 vs us (cf (Value.slice (some (Addr.mk 0 o none)) n c0) (Value.slice (some (Addr.mk 1 o' none)) m c1) ca fa ch se ro le lc)) 3) ∧ SelfP 98 (t5 [(3, Value.int IntKind.i64 (↑n : Int)), (4, Value.bool b1), (5, Value.bool b2)]) (o5 vs us (cf (Value.slice (some (Addr.mk 0 o none)) n c0) (Value.slice (some (Addr.mk 1 o' none)) m c1) ca fa ch se ro le lc)) 3) ∧ SelfP 98 (t5 [(3, Value.int IntKind.i64 (↑n : Int)), (4, Value.bool b1), (5, Value.bool b2), (6, Value.bool false)]) (o5 vs us (cf (Value.slice (some (Addr.mk 0 o none)) n c0) (Value.slice (some (Addr.mk 1 o' none)) m c1) ca fa ch se ro le lc)) 3) ∧ ((!b1) == false) = true) ∧ ((!b1) == false) = true) ∧ (!b1) = false) ∧ ((!b2) == false) = false) ∧ ((!b2) == false) = false) ∧ (!b2) = true)) (by kernel_rfl) ⟨⟨⟨⟨⟨⟨⟨⟨⟨⟨trivial, selfP_true _ _ _ _⟩, selfP_true _ _ _ _⟩, selfP_true _ _ _ _⟩, selfP_true _ _ _ _⟩, gd h0 rfl⟩, gd h0 rfl⟩, h0⟩, gd h1 rfl⟩, gd h1 rfl⟩, h1⟩

theorem c5y_2 (o : Nat) (o' : Nat) (c0 : Nat) (c1 : Nat) (n : Nat) (m : Nat) (vs : List Value) (us : List Value) (b1 : Bool) (b2 : Bool) (ca : Int) (fa : Nat) (ch : Int) (se : Int) (ro : Int) (le : Int) (lc : Int) (h0 : (!b1) = false) (h1 : (!b2) = false) :
    RanC (runO Tryz.prog E1 (s5 sm0 vs us (cf (Value.slice (some (Addr.mk 0 o none)) n c0) (Value.slice (some (Addr.mk 1 o' none)) m c1) ca fa ch se ro le lc) n b1 b2 false true) noRun 100 5 [Value.agg (Array.mk (cf (Value.slice (some (Addr.mk 0 o none)) n c0) (Value.slice (some (Addr.mk 1 o' none)) m c1) ca fa ch se ro le lc))] (mkHp 2 (oE vs us)) [.skip 9, .b true, .skip 1, .b true, .skip 1, .b false, .skip 1, .b true, .skip 1, .b true, .skip 1, .b false] True) (.returned (Value.int IntKind.i64 1)) [(0, AObj.rov vs), (1, AObj.rov us), (2, AObj.cells [Value.slice (some (Addr.mk 0 o none)) n c0, Value.slice (some (Addr.mk 1 o' none)) m c1, Value.int IntKind.i64 ca, Value.float FloatKind.f64 fa, Value.int IntKind.i64 ch, Value.int IntKind.i64 se, Value.int IntKind.i64 ro, Value.int IntKind.u32 le, Value.int IntKind.u32 lc] 0)] 3 :=
  cameCF_of (O := ((((((((((True ∧ SelfP 98 (t5 [(3, Value.int IntKind.i64 (↑n : Int))]) (o5 vs us (cf (Value.slice (some (Addr.mk 0 o none)) n c0) (Value.slice (some (Addr.mk 1 o' none)) m c1) ca fa ch se ro le lc)) 3) ∧ SelfP 98 (t5 [(3, Value.int IntKind.i64 (↑n : Int)), (4, Value.bool b1)]) (o5 vs us (cf (Value.slice (some (Addr.mk 0 o none)) n c0) (Value.slice (some (Addr.mk 1 o' none)) m c1) ca fa ch se ro le lc)) 3) ∧ SelfP 98 (t5 [(3, Value.int IntKind.i64 (↑n : Int)), (4, Value.bool b1), (5, Value.bool b2)]) (o5 vs us (cf (Value.slice (some (Addr.mk 0 o none)) n c0) (Value.slice (some (Addr.mk 1 o' none)) m c1) ca fa ch se ro le lc)) 3) ∧ SelfP 98 (t5 [(3, Value.int IntKind.i64 (↑n : Int)), (4, Value.bool b1), (5, Value.bool b2), (6, Value.bool false)]) (o5 vs us (cf (Value.slice (some (Addr.mk 0 o none)) n c0) (Value.slice (some (Addr.mk 1 o' none)) m c1) ca fa ch se ro le lc)) 3) ∧ ((!b1) == false) = true) ∧ ((!b1) == false) = true) ∧ (!b1) = false) ∧ ((!b2) == false) = true) ∧ ((!b2) == false) = true) ∧ (!b2) = false)) (by kernel_rfl) ⟨⟨⟨⟨⟨⟨⟨⟨⟨⟨trivial, selfP_true _ _ _ _⟩, selfP_true _ _ _ _⟩, selfP_true _ _ _ _⟩, selfP_true _ _ _ _⟩, gd h0 rfl⟩, gd h0 rfl⟩, h0⟩, gd h1 rfl⟩, gd h1 rfl⟩, h1⟩
theorem c5z_0 (o : Nat) (o' : Nat) (c0 : Nat) (c1 : Nat) (n : Nat) (m : Nat) (vs : List Value) (us : List Value) (b1 : Bool) (ca : Int) (fa : Nat) (ch : Int) (se : Int) (ro : Int) (le : Int) (lc : Int) (h0 : (!b1) = true) :
    RanC (runO Tryz.prog E1 (s5 sm0 vs us (cf (Value.slice (some (Addr.mk 0 o none)) n c0) (Value.slice (some (Addr.mk 1 o' none)) m c1) ca fa ch se ro le lc) n b1 false true true) noRun 100 5 [Value.agg (Array.mk (cf (Value.slice (some (Addr.mk 0 o none)) n c0) (Value.slice (some (Addr.mk 1 o' none)) m c1) ca fa ch se ro le lc))] (mkHp 2 (oE vs us)) [.skip 9, .b false, .b false, .b true] True) (.returned (Value.int IntKind.i64 1)) [(0, AObj.rov vs), (1, AObj.rov us), (2, AObj.cells [Value.slice (some (Addr.mk 0 o none)) n c0, Value.slice (some (Addr.mk 1 o' none)) m c1, Value.int IntKind.i64 ca, Value.float FloatKind.f64 fa, Value.int IntKind.i64 ch, Value.int IntKind.i64 se, Value.int IntKind.i64 ro, Value.int IntKind.u32 le, Value.int IntKind.u32 lc] 0)] 3 :=
  cameCF_of (O := (((((((True ∧ SelfP 98 (t5 [(3, Value.int IntKind.i64 (↑n : Int))]) (o5 vs us (cf (Value.slice (some (Addr.mk 0 o none)) n c0) (Value.slice (some (Addr.mk 1 o' none)) m c1) ca fa ch se ro le lc)) 3) ∧ SelfP 98 (t5 [(3, Value.int IntKind.i64 (↑n : Int)), (4, Value.bool b1)]) (o5 vs us (cf (Value.slice (some (Addr.mk 0 o none)) n c0) (Value.slice (some (Addr.mk 1 o' none)) m c1) ca fa ch se ro le lc)) 3) ∧ SelfP 98 (t5 [(3, Value.int IntKind.i64 (↑n : Int)), (4, Value.bool b1), (5, Value.bool false)]) (o5 vs us (cf (Value.slice (some (Addr.mk 0 o none)) n c0) (Value.slice (some (Addr.mk 1 o' none)) m c1) ca fa ch se ro le lc)) 3) ∧ SelfP 98 (t5 [(3, Value.int IntKind.i64 (↑n : Int)), (4, Value.bool b1), (5, Value.bool false), (6, Value.bool true)]) (o5 vs us (cf (Value.slice (some (Addr.mk 0 o none)) n c0) (Value.slice (some (Addr.mk 1 o' none)) m c1) ca fa ch se ro le lc)) 3) ∧ ((!b1) == false) = false) ∧ ((!b1) == false) = false) ∧ (!b1) = true)) (by kernel_rfl) ⟨⟨⟨⟨⟨⟨⟨trivial, selfP_true _ _ _ _⟩, selfP_true _ _ _ _⟩, selfP_true _ _ _ _⟩, selfP_true _ _ _ _⟩, gd h0 rfl⟩, gd h0 rfl⟩, h0⟩

theorem c5z_1 (o : Nat) (o' : Nat) (c0 : Nat) (c1 : Nat) (n : Nat) (m : Nat) (vs : List Value) (us : List Value) (b1 : Bool) (ca : Int) (fa : Nat) (ch : Int) (se : Int) (ro : Int) (le : Int) (lc : Int) (h0 : (!b1) = false) :
    RanC (runO Tryz.prog E1 (s5 sm0 vs us (cf (Value.slice (some (Addr.mk 0 o none)) n c0) (Value.slice (some (Addr.mk 1 o' none)) m c1) ca fa ch se ro le lc) n b1 false true true) noRun 100 5 [Value.agg (Array.mk (cf (Value.slice (some (Addr.mk 0 o none)) n c0) (Value.slice (some (Addr.mk 1 o' none)) m c1) ca fa ch se ro le lc))] (mkHp 2 (oE vs us)) [.skip 9, .b true, .skip 1, .b true, .skip 1, .b false] True) (.returned (Value.int IntKind.i64 1)) [(0, AObj.rov vs), (1, AObj.rov us), (2, AObj.cells [Value.slice (some (Addr.mk 0 o none)) n c0, Value.slice (some (Addr.mk 1 o' none)) m c1, Value.int IntKind.i64 ca, Value.float FloatKind.f64 fa, Value.int IntKind.i64 ch, Value.int IntKind.i64 se, Value.int IntKind.i64 ro, Value.int IntKind.u32 le, Value.int IntKind.u32 lc] 0)] 3 :=
  cameCF_of (O := (((((((True ∧ SelfP 98 (t5 [(3, Value.int IntKind.i64 (↑n : Int))]) (o5 vs us (cf (Value.slice (some (Addr.mk 0 o none)) n c0) (Value.slice (some (Addr.mk 1 o' none)) m c1) ca fa ch se ro le lc)) 3) ∧ SelfP 98 (t5 [(3, Value.int IntKind.i64 (↑n : Int)), (4, Value.bool b1)]) (o5 vs us (cf (Value.slice (some (Addr.mk 0 o none)) n c0) (Value.slice (some (Addr.mk 1 o' none)) m c1) ca fa ch se ro le lc)) 3) ∧ SelfP 98 (t5 [(3, Value.int IntKind.i64 (↑n : Int)), (4, Value.bool b1), (5, Value.bool false)]) (o5 vs us (cf (Value.slice (some (Addr.mk 0 o none)) n c0) (Value.slice (some (Addr.mk 1 o' none)) m c1) ca fa ch se ro le lc)) 3) ∧ SelfP 98 (t5 [(3, Value.int IntKind.i64 (↑n : Int)), (4, Value.bool b1), (5, Value.bool false), (6, Value.bool true)]) (o5 vs us (cf (Value.slice (some (Addr.mk 0 o none)) n c0) (Value.slice (some (Addr.mk 1 o' none)) m c1) ca fa ch se ro le lc)) 3) ∧ ((!b1) == false) = true) ∧ ((!b1) == false) = true) ∧ (!b1) = false)) (by kernel_rfl) ⟨⟨⟨⟨⟨⟨⟨trivial, selfP_true _ _ _ _⟩, selfP_true _ _ _ _⟩, selfP_true _ _ _ _⟩, selfP_true _ _ _ _⟩, gd h0 rfl⟩, gd h0 rfl⟩, h0⟩
theorem c5w_came (o : Nat) (o' : Nat) (c0 : Nat) (c1 : Nat) (n : Nat) (m : Nat) (vs : List Value) (us : List Value) (ca : Int) (fa : Nat) (ch : Int) (se : Int) (ro : Int) (le : Int) (lc : Int)  :
    RanC (runO Tryz.prog E1 (s5 sm0 vs us (cf (Value.slice (some (Addr.mk 0 o none)) n c0) (Value.slice (some (Addr.mk 1 o' none)) m c1) ca fa ch se ro le lc) n false true true true) noRun 100 5 [Value.agg (Array.mk (cf (Value.slice (some (Addr.mk 0 o none)) n c0) (Value.slice (some (Addr.mk 1 o' none)) m c1) ca fa ch se ro le lc))] (mkHp 2 (oE vs us)) [] True) (.returned (Value.int IntKind.i64 1)) [(0, AObj.rov vs), (1, AObj.rov us), (2, AObj.cells [Value.slice (some (Addr.mk 0 o none)) n c0, Value.slice (some (Addr.mk 1 o' none)) m c1, Value.int IntKind.i64 ca, Value.float FloatKind.f64 fa, Value.int IntKind.i64 ch, Value.int IntKind.i64 se, Value.int IntKind.i64 ro, Value.int IntKind.u32 le, Value.int IntKind.u32 lc] 0)] 3 :=
  cameCF_of (O := ((((True ∧ SelfP 98 (t5 [(3, Value.int IntKind.i64 (↑n : Int))]) (o5 vs us (cf (Value.slice (some (Addr.mk 0 o none)) n c0) (Value.slice (some (Addr.mk 1 o' none)) m c1) ca fa ch se ro le lc)) 3) ∧ SelfP 98 (t5 [(3, Value.int IntKind.i64 (↑n : Int)), (4, Value.bool false)]) (o5 vs us (cf (Value.slice (some (Addr.mk 0 o none)) n c0) (Value.slice (some (Addr.mk 1 o' none)) m c1) ca fa ch se ro le lc)) 3) ∧ SelfP 98 (t5 [(3, Value.int IntKind.i64 (↑n : Int)), (4, Value.bool false), (5, Value.bool true)]) (o5 vs us (cf (Value.slice (some (Addr.mk 0 o none)) n c0) (Value.slice (some (Addr.mk 1 o' none)) m c1) ca fa ch se ro le lc)) 3) ∧ SelfP 98 (t5 [(3, Value.int IntKind.i64 (↑n : Int)), (4, Value.bool false), (5, Value.bool true), (6, Value.bool true)]) (o5 vs us (cf (Value.slice (some (Addr.mk 0 o none)) n c0) (Value.slice (some (Addr.mk 1 o' none)) m c1) ca fa ch se ro le lc)) 3)) (by kernel_rfl) ⟨⟨⟨⟨trivial, selfP_true _ _ _ _⟩, selfP_true _ _ _ _⟩, selfP_true _ _ _ _⟩, selfP_true _ _ _ _⟩
theorem c5n_came (o : Nat) (o' : Nat) (c0 : Nat) (c1 : Nat) (n : Nat) (vs : List Value) (us : List Value) (ca : Int) (fa : Nat) (ch : Int) (se : Int) (ro : Int) (le : Int) (lc : Int)  :
    RanC (runO Tryz.prog E1 (s5 (withS sm0 17 (viewS [0, 1] (no17 o o' c0 c1 n vs us))) vs us (cf (Value.slice (some (Addr.mk 0 o none)) n c0) (Value.slice (some (Addr.mk 1 o' none)) n c1) ca fa ch se ro le lc) n true true true true) noRun 100 5 [Value.agg (Array.mk (cf (Value.slice (some (Addr.mk 0 o none)) n c0) (Value.slice (some (Addr.mk 1 o' none)) n c1) ca fa ch se ro le lc))] (mkHp 2 (oE vs us)) [] True) (.returned (Value.int IntKind.i64 200)) [(0, AObj.rov vs), (1, AObj.rov us), (2, AObj.cells [Value.slice (some (Addr.mk 0 o none)) n c0, Value.slice (some (Addr.mk 1 o' none)) n c1, Value.int IntKind.i64 ca, Value.float FloatKind.f64 fa, Value.int IntKind.i64 ch, Value.int IntKind.i64 se, Value.int IntKind.i64 ro, Value.int IntKind.u32 le, Value.int IntKind.u32 lc] 0)] 3 :=
  cameCF_of (O := (((((True ∧ SelfP 98 (t5 [(3, Value.int IntKind.i64 (↑n : Int))]) (o5 vs us (cf (Value.slice (some (Addr.mk 0 o none)) n c0) (Value.slice (some (Addr.mk 1 o' none)) n c1) ca fa ch se ro le lc)) 3) ∧ SelfP 98 (t5 [(3, Value.int IntKind.i64 (↑n : Int)), (4, Value.bool true)]) (o5 vs us (cf (Value.slice (some (Addr.mk 0 o none)) n c0) (Value.slice (some (Addr.mk 1 o' none)) n c1) ca fa ch se ro le lc)) 3) ∧ SelfP 98 (t5 [(3, Value.int IntKind.i64 (↑n : Int)), (4, Value.bool true), (5, Value.bool true)]) (o5 vs us (cf (Value.slice (some (Addr.mk 0 o none)) n c0) (Value.slice (some (Addr.mk 1 o' none)) n c1) ca fa ch se ro le lc)) 3) ∧ SelfP 98 (t5 [(3, Value.int IntKind.i64 (↑n : Int)), (4, Value.bool true), (5, Value.bool true), (6, Value.bool true)]) (o5 vs us (cf (Value.slice (some (Addr.mk 0 o none)) n c0) (Value.slice (some (Addr.mk 1 o' none)) n c1) ca fa ch se ro le lc)) 3) ∧ ([Value.slice (some (Addr.mk 0 o none)) n c0, Value.slice (some (Addr.mk 1 o' none)) n c1] = [Value.slice (some (Addr.mk 0 o none)) n c0, Value.slice (some (Addr.mk 1 o' none)) n c1] ∧ true = true ∧ true = true) ∧ vs = vs ∧ us = us ∧ True)) (by kernel_rfl) ⟨⟨⟨⟨⟨trivial, selfP_true _ _ _ _⟩, selfP_true _ _ _ _⟩, selfP_true _ _ _ _⟩, selfP_true _ _ _ _⟩, ⟨⟨rfl, ⟨rfl, rfl⟩⟩, ⟨rfl, ⟨rfl, trivial⟩⟩⟩⟩
theorem c5g_came (o : Nat) (o' : Nat) (c0 : Nat) (c1 : Nat) (n : Nat) (vs : List Value) (us : List Value) (ws : List Int) (gs : List Int) (ca : Int) (fa : Nat) (ch : Int) (se : Int) (ro : Int) (le : Int) (lc : Int)  :
    RanC (runO Tryz.prog E1 (s5 (withS sm0 17 (viewS [0, 1] (yes17 o o' c0 c1 n vs us ws gs))) vs us (cf (Value.slice (some (Addr.mk 0 o none)) n c0) (Value.slice (some (Addr.mk 1 o' none)) n c1) ca fa ch se ro le lc) n true true true true) noRun 100 5 [Value.agg (Array.mk (cf (Value.slice (some (Addr.mk 0 o none)) n c0) (Value.slice (some (Addr.mk 1 o' none)) n c1) ca fa ch se ro le lc))] (mkHp 2 (oE vs us)) [] True) (.returned (Value.int IntKind.i64 0)) [(0, AObj.rov vs), (1, AObj.rov us), (2, AObj.cells [Value.slice (some (Addr.mk 0 o none)) n c0, Value.slice (some (Addr.mk 1 o' none)) n c1, Value.int IntKind.i64 ca, Value.float FloatKind.f64 fa, Value.int IntKind.i64 ch, Value.int IntKind.i64 se, Value.int IntKind.i64 ro, Value.int IntKind.u32 le, Value.int IntKind.u32 lc] 0), (3, AObj.cells (ints ws) 1), (4, AObj.cells (ints gs) 1), (5, AObj.cells (cs17 (u17 3 n) (u17 4 n) (st17 ws gs n)) 0)] 6 :=
  cameCF_of (O := (((((True ∧ SelfP 98 (t5 [(3, Value.int IntKind.i64 (↑n : Int))]) (o5 vs us (cf (Value.slice (some (Addr.mk 0 o none)) n c0) (Value.slice (some (Addr.mk 1 o' none)) n c1) ca fa ch se ro le lc)) 3) ∧ SelfP 98 (t5 [(3, Value.int IntKind.i64 (↑n : Int)), (4, Value.bool true)]) (o5 vs us (cf (Value.slice (some (Addr.mk 0 o none)) n c0) (Value.slice (some (Addr.mk 1 o' none)) n c1) ca fa ch se ro le lc)) 3) ∧ SelfP 98 (t5 [(3, Value.int IntKind.i64 (↑n : Int)), (4, Value.bool true), (5, Value.bool true)]) (o5 vs us (cf (Value.slice (some (Addr.mk 0 o none)) n c0) (Value.slice (some (Addr.mk 1 o' none)) n c1) ca fa ch se ro le lc)) 3) ∧ SelfP 98 (t5 [(3, Value.int IntKind.i64 (↑n : Int)), (4, Value.bool true), (5, Value.bool true), (6, Value.bool true)]) (o5 vs us (cf (Value.slice (some (Addr.mk 0 o none)) n c0) (Value.slice (some (Addr.mk 1 o' none)) n c1) ca fa ch se ro le lc)) 3) ∧ ([Value.slice (some (Addr.mk 0 o none)) n c0, Value.slice (some (Addr.mk 1 o' none)) n c1] = [Value.slice (some (Addr.mk 0 o none)) n c0, Value.slice (some (Addr.mk 1 o' none)) n c1] ∧ true = true ∧ true = true) ∧ vs = vs ∧ us = us ∧ True)) (by kernel_rfl) ⟨⟨⟨⟨⟨trivial, selfP_true _ _ _ _⟩, selfP_true _ _ _ _⟩, selfP_true _ _ _ _⟩, selfP_true _ _ _ _⟩, ⟨⟨rfl, ⟨rfl, rfl⟩⟩, ⟨rfl, ⟨rfl, trivial⟩⟩⟩⟩
end Go.Abs
end

section
set_option linter.unusedVariables false
set_option linter.unusedSimpArgs false
set_option linter.unusedSectionVars false
/-
  ClusterChecks: the program's Check, its contract.
-/
namespace Go.Abs
open Go.Proofs
set_option maxRecDepth 100000
set_option maxHeartbeats 4000000
set_option linter.unusedVariables false
theorem o5_fits (vs us : List Value) {s0 s1 : Value} (ca : Int) (fa : Nat) (ch se ro le lc : Int) (hb0 : Bd 3 s0) (hb1 : Bd 3 s1) {ts : List (Nat × Value)} (g1 : smallN ts = true) (g2 : ∀ p ∈ ts, Bd 3 p.2) : Fits 3 ts (o5 vs us (cf s0 s1 ca fa ch se ro le lc)) 3 := by
  refine ⟨g1, rfl, g2, ?_, by decide, by decide⟩
  intro p hp
  simp [o5] at hp
  rcases hp with rfl | rfl | rfl
  · exact ⟨by simp, trivial⟩
  · exact ⟨by simp, trivial⟩
  · refine ⟨by simp, ?_⟩
    intro x hx
    simp only [cf, List.mem_cons, List.not_mem_nil, or_false] at hx
    rcases hx with rfl | rfl | rfl | rfl | rfl | rfl | rfl | rfl | rfl
    · exact hb0
    · exact hb1
    all_goals simp
theorem pca (vs us : List Value) (o o' c0 c1 n m : Nat) (ca : Int) (fa : Nat) (ch se ro le lc : Int) (hb0 : Bd 3 (.slice (some ⟨0, o, none⟩) n c0)) (hb1 : Bd 3 (.slice (some ⟨1, o', none⟩) m c1)) (pr : Prot) (w0 : World) : PieceOk Tryz.prog pr w0 0 (codeAt Tryz.f5 [0, 1, 1]) (p5 [(3, .int .i64 n)] (4, .bool (b5a n m)) (o5 vs us (cf (.slice (some ⟨0, o, none⟩) n c0) (.slice (some ⟨1, o', none⟩) m c1) ca fa ch se ro le lc))) := by
  have hh : Here E1 5 [0, 1, 1] (codeAt Tryz.f5 [0, 1, 1]) := codeAt_here (fn := Tryz.f5) (by kernel_rfl) (by kernel_rfl)
  have hF : ∀ ts, smallN ts = true → (∀ p ∈ ts, Bd 3 p.2) → Fits 3 ts (o5 vs us (cf (.slice (some ⟨0, o, none⟩) n c0) (.slice (some ⟨1, o', none⟩) m c1) ca fa ch se ro le lc)) 3 := fun ts g1 g2 => o5_fits vs us ca fa ch se ro le lc hb0 hb1 g1 g2
  cases d0 : ((n : Int) == (m : Int)) with
  | false =>
    have hb : b5a n m = false := by simp only [b5a, d0, Bool.true_and, Bool.false_and]
    rw [hb]
    exact piece_came hP1 (sm0_ok pr w0) hh (e5a_2 vs us o o' c0 c1 n m ca fa ch se ro le lc d0) (by simp) (hF _ rfl (by simp [t5])) (hF _ rfl (by simp [t5]))
  | true =>
    cases d1 : decide ((n : Int) ≥ 1) with
    | false =>
      have hb : b5a n m = false := by simp only [b5a, d0, d1, Bool.true_and, Bool.false_and]
      rw [hb]
      exact piece_came hP1 (sm0_ok pr w0) hh (e5a_1 vs us o o' c0 c1 n m ca fa ch se ro le lc d0 d1) (by simp) (hF _ rfl (by simp [t5])) (hF _ rfl (by simp [t5]))
    | true =>
      have hb : b5a n m = decide ((n : Int) ≤ 7) := by simp only [b5a, d0, d1, Bool.true_and]
      rw [hb]
      exact piece_came hP1 (sm0_ok pr w0) hh (e5a_0 vs us o o' c0 c1 n m ca fa ch se ro le lc d0 d1) (by simp) (hF _ rfl (by simp [t5])) (hF _ rfl (by simp [t5]))
theorem pcb (vs us : List Value) (s0 s1 : Value) (n : Nat) (b1 : Bool) (ca : Int) (fa : Nat) (ch se ro le lc : Int) (hb0 : Bd 3 s0) (hb1 : Bd 3 s1) (pr : Prot) (w0 : World) : PieceOk Tryz.prog pr w0 0 (codeAt Tryz.f5 [0, 1, 1, 1]) (p5 [(3, .int .i64 n), (4, .bool b1)] (5, .bool (b5b ca ch)) (o5 vs us (cf s0 s1 ca fa ch se ro le lc))) := by
  have hh : Here E1 5 [0, 1, 1, 1] (codeAt Tryz.f5 [0, 1, 1, 1]) := codeAt_here (fn := Tryz.f5) (by kernel_rfl) (by kernel_rfl)
  have hF : ∀ ts, smallN ts = true → (∀ p ∈ ts, Bd 3 p.2) → Fits 3 ts (o5 vs us (cf s0 s1 ca fa ch se ro le lc)) 3 := fun ts g1 g2 => o5_fits vs us ca fa ch se ro le lc hb0 hb1 g1 g2
  cases d0 : decide (ca ≥ 0) with
  | false =>
    have hb : b5b ca ch = false := by simp only [b5b, d0, Bool.true_and, Bool.false_and]
    rw [hb]
    exact piece_came hP1 (sm0_ok pr w0) hh (e5b_3 vs us s0 s1 n b1 ca fa ch se ro le lc d0) (by simp) (hF _ rfl (by simp [t5])) (hF _ rfl (by simp [t5]))
  | true =>
    cases d1 : decide (ca ≤ 64) with
    | false =>
      have hb : b5b ca ch = false := by simp only [b5b, d0, d1, Bool.true_and, Bool.false_and]
      rw [hb]
      exact piece_came hP1 (sm0_ok pr w0) hh (e5b_2 vs us s0 s1 n b1 ca fa ch se ro le lc d0 d1) (by simp) (hF _ rfl (by simp [t5])) (hF _ rfl (by simp [t5]))
    | true =>
      cases d2 : decide (ch ≥ 16) with
      | false =>
        have hb : b5b ca ch = false := by simp only [b5b, d0, d1, d2, Bool.true_and, Bool.false_and]
        rw [hb]
        exact piece_came hP1 (sm0_ok pr w0) hh (e5b_1 vs us s0 s1 n b1 ca fa ch se ro le lc d0 d1 d2) (by simp) (hF _ rfl (by simp [t5])) (hF _ rfl (by simp [t5]))
      | true =>
        have hb : b5b ca ch = decide (ch ≤ 4096) := by simp only [b5b, d0, d1, d2, Bool.true_and]
        rw [hb]
        exact piece_came hP1 (sm0_ok pr w0) hh (e5b_0 vs us s0 s1 n b1 ca fa ch se ro le lc d0 d1 d2) (by simp) (hF _ rfl (by simp [t5])) (hF _ rfl (by simp [t5]))
theorem pcc (vs us : List Value) (s0 s1 : Value) (n : Nat) (b1 b2 : Bool) (ca : Int) (fa : Nat) (ch se ro le lc : Int) (hb0 : Bd 3 s0) (hb1 : Bd 3 s1) (pr : Prot) (w0 : World) : PieceOk Tryz.prog pr w0 0 (codeAt Tryz.f5 [0, 1, 1, 1, 1]) (p5 [(3, .int .i64 n), (4, .bool b1), (5, .bool b2)] (6, .bool (b5c se ro)) (o5 vs us (cf s0 s1 ca fa ch se ro le lc))) := by
  have hh : Here E1 5 [0, 1, 1, 1, 1] (codeAt Tryz.f5 [0, 1, 1, 1, 1]) := codeAt_here (fn := Tryz.f5) (by kernel_rfl) (by kernel_rfl)
  have hF : ∀ ts, smallN ts = true → (∀ p ∈ ts, Bd 3 p.2) → Fits 3 ts (o5 vs us (cf s0 s1 ca fa ch se ro le lc)) 3 := fun ts g1 g2 => o5_fits vs us ca fa ch se ro le lc hb0 hb1 g1 g2
  cases d0 : decide (se ≥ 1) with
  | false =>
    have hb : b5c se ro = false := by simp only [b5c, d0, Bool.true_and, Bool.false_and]
    rw [hb]
    exact piece_came hP1 (sm0_ok pr w0) hh (e5c_3 vs us s0 s1 n b1 b2 ca fa ch se ro le lc d0) (by simp) (hF _ rfl (by simp [t5])) (hF _ rfl (by simp [t5]))
  | true =>
    cases d1 : decide (se ≤ 64) with
    | false =>
      have hb : b5c se ro = false := by simp only [b5c, d0, d1, Bool.true_and, Bool.false_and]
      rw [hb]
      exact piece_came hP1 (sm0_ok pr w0) hh (e5c_2 vs us s0 s1 n b1 b2 ca fa ch se ro le lc d0 d1) (by simp) (hF _ rfl (by simp [t5])) (hF _ rfl (by simp [t5]))
    | true =>
      cases d2 : decide (ro ≥ 0) with
      | false =>
        have hb : b5c se ro = false := by simp only [b5c, d0, d1, d2, Bool.true_and, Bool.false_and]
        rw [hb]
        exact piece_came hP1 (sm0_ok pr w0) hh (e5c_1 vs us s0 s1 n b1 b2 ca fa ch se ro le lc d0 d1 d2) (by simp) (hF _ rfl (by simp [t5])) (hF _ rfl (by simp [t5]))
      | true =>
        have hb : b5c se ro = decide (ro ≤ 16777216) := by simp only [b5c, d0, d1, d2, Bool.true_and]
        rw [hb]
        exact piece_came hP1 (sm0_ok pr w0) hh (e5c_0 vs us s0 s1 n b1 b2 ca fa ch se ro le lc d0 d1 d2) (by simp) (hF _ rfl (by simp [t5])) (hF _ rfl (by simp [t5]))
theorem pcd (vs us : List Value) (s0 s1 : Value) (n : Nat) (b1 b2 b3 : Bool) (ca : Int) (fa : Nat) (ch se ro le lc : Int) (hb0 : Bd 3 s0) (hb1 : Bd 3 s1) (pr : Prot) (w0 : World) : PieceOk Tryz.prog pr w0 0 (codeAt Tryz.f5 [0, 1, 1, 1, 1, 1]) (p5 [(3, .int .i64 n), (4, .bool b1), (5, .bool b2), (6, .bool b3)] (7, .bool (b5d le lc)) (o5 vs us (cf s0 s1 ca fa ch se ro le lc))) := by
  have hh : Here E1 5 [0, 1, 1, 1, 1, 1] (codeAt Tryz.f5 [0, 1, 1, 1, 1, 1]) := codeAt_here (fn := Tryz.f5) (by kernel_rfl) (by kernel_rfl)
  have hF : ∀ ts, smallN ts = true → (∀ p ∈ ts, Bd 3 p.2) → Fits 3 ts (o5 vs us (cf s0 s1 ca fa ch se ro le lc)) 3 := fun ts g1 g2 => o5_fits vs us ca fa ch se ro le lc hb0 hb1 g1 g2
  cases d0 : decide (le ≥ 1) with
  | false =>
    have hb : b5d le lc = false := by simp only [b5d, d0, Bool.true_and, Bool.false_and]
    rw [hb]
    exact piece_came hP1 (sm0_ok pr w0) hh (e5d_2 vs us s0 s1 n b1 b2 b3 ca fa ch se ro le lc d0) (by simp) (hF _ rfl (by simp [t5])) (hF _ rfl (by simp [t5]))
  | true =>
    cases d1 : decide (le ≤ 2147483647) with
    | false =>
      have hb : b5d le lc = false := by simp only [b5d, d0, d1, Bool.true_and, Bool.false_and]
      rw [hb]
      exact piece_came hP1 (sm0_ok pr w0) hh (e5d_1 vs us s0 s1 n b1 b2 b3 ca fa ch se ro le lc d0 d1) (by simp) (hF _ rfl (by simp [t5])) (hF _ rfl (by simp [t5]))
    | true =>
      have hb : b5d le lc = decide (lc ≥ 1) := by simp only [b5d, d0, d1, Bool.true_and]
      rw [hb]
      exact piece_came hP1 (sm0_ok pr w0) hh (e5d_0 vs us s0 s1 n b1 b2 b3 ca fa ch se ro le lc d0 d1) (by simp) (hF _ rfl (by simp [t5])) (hF _ rfl (by simp [t5]))
theorem s5_ok {s : Sm} {pr : Prot} {w0 : World} (hs : SmOk Tryz.prog E1 pr w0 s) (vs us : List Value) (o o' c0 c1 n m : Nat) (ca : Int) (fa : Nat) (ch se ro le lc : Int) {b1 b2 b3 b4 : Bool} (h1 : b5a n m = b1) (h2 : b5b ca ch = b2) (h3 : b5c se ro = b3) (h4 : b5d le lc = b4) :
    SmOk Tryz.prog E1 pr w0 (s5 s vs us (cf (.slice (some ⟨0, o, none⟩) n c0) (.slice (some ⟨1, o', none⟩) m c1) ca fa ch se ro le lc) n b1 b2 b3 b4) := by
  subst h1; subst h2; subst h3; subst h4
  exact withL_ok (withL_ok (withL_ok (withL_ok hs (fn := Tryz.f5) (by kernel_rfl) (by kernel_rfl) (pca vs us o o' c0 c1 n m ca fa ch se ro le lc (by simp) (by simp) pr w0)) (fn := Tryz.f5) (by kernel_rfl) (by kernel_rfl) (pcb vs us _ _ n _ ca fa ch se ro le lc (by simp) (by simp) pr w0))
    (fn := Tryz.f5) (by kernel_rfl) (by kernel_rfl) (pcc vs us _ _ n _ _ ca fa ch se ro le lc (by simp) (by simp) pr w0)) (fn := Tryz.f5) (by kernel_rfl) (by kernel_rfl) (pcd vs us _ _ n _ _ _ ca fa ch se ro le lc (by simp) (by simp) pr w0)
def arg5 (o o' c0 c1 n m : Nat) (ca : Int) (fa : Nat) (ch se ro le lc : Int) (σ : Nat → Nat) : List Value := [.agg ⟨cf (.slice (some ⟨σ 0, o, none⟩) n c0) (.slice (some ⟨σ 1, o', none⟩) m c1) ca fa ch se ro le lc⟩]
theorem arg5_up (o o' c0 c1 n m : Nat) (ca : Int) (fa : Nat) (ch se ro le lc : Int) (σ : Nat → Nat) : arg5 o o' c0 c1 n m ca fa ch se ro le lc σ = (arg5 o o' c0 c1 n m ca fa ch se ro le lc fun n => n).map (upV σ) := by simp [arg5, cf, upV]
theorem arg5_bd (o o' c0 c1 n m : Nat) (ca : Int) (fa : Nat) (ch se ro le lc : Int) : ∀ x ∈ arg5 o o' c0 c1 n m ca fa ch se ro le lc (fun n => n), Bd 2 x := by
  simp [arg5, cf]
def chk5 (n m : Nat) (ca ch se ro le lc : Int) : Bool := b5a n m && (b5b ca ch && (b5c se ro && b5d le lc))
section
variable (vs us : List Value) (o o' c0 c1 n m : Nat) (ca : Int) (fa : Nat) (ch se ro le lc : Int)
theorem con5_arg (h : chk5 n m ca ch se ro le lc = false) : ConOk Tryz.prog 5 ⟨arg5 o o' c0 c1 n m ca fa ch se ro le lc, oE vs us, 2, fun _ => .int .i64 1, fun _ => []⟩ := by
  have hF2 : Fits 2 [] (oE vs us) 2 := oE_fits (k := 0) rfl (by simp) (by decide) (by decide)
  have hF3 : Fits 2 [] (o5 vs us (cf (.slice (some ⟨0, o, none⟩) n c0) (.slice (some ⟨1, o', none⟩) m c1) ca fa ch se ro le lc)) 3 := by
    have := o5_fits vs us ca fa ch se ro le lc (s0 := .slice (some ⟨0, o, none⟩) n c0) (s1 := .slice (some ⟨1, o', none⟩) m c1) (by simp) (by simp) (ts := []) rfl (by simp)
    exact ⟨rfl, this.so, by simp, this.bo, this.lim, by decide⟩
  have hok := fun pr w0 => fun b1 b2 b3 b4 h1 h2 h3 h4 => @s5_ok sm0 pr w0 (sm0_ok pr w0) vs us o o' c0 c1 n m ca fa ch se ro le lc b1 b2 b3 b4 h1 h2 h3 h4
  cases h4 : b5d le lc with
  | false =>
    cases h1 : b5a n m with
    | false => exact con_read hP1 (fun pr w0 => hok pr w0 _ _ _ _ h1 rfl rfl h4) (c5x_0 o o' c0 c1 n m vs us _ _ _ ca fa ch se ro le lc (by decide)) hF2 hF3 (fun x hx => arg5_bd _ _ _ _ _ _ _ _ _ _ _ _ _ x hx) (by simp) (fun σ => arg5_up _ _ _ _ _ _ _ _ _ _ _ _ _ σ) (by intro σ; simp [upV])
    | true =>
      cases h2 : b5b ca ch with
      | false => exact con_read hP1 (fun pr w0 => hok pr w0 _ _ _ _ h1 h2 rfl h4) (c5x_1 o o' c0 c1 n m vs us _ _ _ ca fa ch se ro le lc (by decide) (by decide)) hF2 hF3 (fun x hx => arg5_bd _ _ _ _ _ _ _ _ _ _ _ _ _ x hx) (by simp) (fun σ => arg5_up _ _ _ _ _ _ _ _ _ _ _ _ _ σ) (by intro σ; simp [upV])
      | true =>
        cases h3 : b5c se ro with
        | false => exact con_read hP1 (fun pr w0 => hok pr w0 _ _ _ _ h1 h2 h3 h4) (c5x_2 o o' c0 c1 n m vs us _ _ _ ca fa ch se ro le lc (by decide) (by decide) (by decide)) hF2 hF3 (fun x hx => arg5_bd _ _ _ _ _ _ _ _ _ _ _ _ _ x hx) (by simp) (fun σ => arg5_up _ _ _ _ _ _ _ _ _ _ _ _ _ σ) (by intro σ; simp [upV])
        | true => exact con_read hP1 (fun pr w0 => hok pr w0 _ _ _ _ h1 h2 h3 h4) (c5x_3 o o' c0 c1 n m vs us _ _ _ ca fa ch se ro le lc (by decide) (by decide) (by decide)) hF2 hF3 (fun x hx => arg5_bd _ _ _ _ _ _ _ _ _ _ _ _ _ x hx) (by simp) (fun σ => arg5_up _ _ _ _ _ _ _ _ _ _ _ _ _ σ) (by intro σ; simp [upV])
  | true =>
    cases h3 : b5c se ro with
    | false =>
      cases h1 : b5a n m with
      | false => exact con_read hP1 (fun pr w0 => hok pr w0 _ _ _ _ h1 rfl h3 h4) (c5y_0 o o' c0 c1 n m vs us _ _ ca fa ch se ro le lc (by decide)) hF2 hF3 (fun x hx => arg5_bd _ _ _ _ _ _ _ _ _ _ _ _ _ x hx) (by simp) (fun σ => arg5_up _ _ _ _ _ _ _ _ _ _ _ _ _ σ) (by intro σ; simp [upV])
      | true =>
        cases h2 : b5b ca ch with
        | false => exact con_read hP1 (fun pr w0 => hok pr w0 _ _ _ _ h1 h2 h3 h4) (c5y_1 o o' c0 c1 n m vs us _ _ ca fa ch se ro le lc (by decide) (by decide)) hF2 hF3 (fun x hx => arg5_bd _ _ _ _ _ _ _ _ _ _ _ _ _ x hx) (by simp) (fun σ => arg5_up _ _ _ _ _ _ _ _ _ _ _ _ _ σ) (by intro σ; simp [upV])
        | true => exact con_read hP1 (fun pr w0 => hok pr w0 _ _ _ _ h1 h2 h3 h4) (c5y_2 o o' c0 c1 n m vs us _ _ ca fa ch se ro le lc (by decide) (by decide)) hF2 hF3 (fun x hx => arg5_bd _ _ _ _ _ _ _ _ _ _ _ _ _ x hx) (by simp) (fun σ => arg5_up _ _ _ _ _ _ _ _ _ _ _ _ _ σ) (by intro σ; simp [upV])
    | true =>
      cases h2 : b5b ca ch with
      | false =>
        cases h1 : b5a n m with
        | false => exact con_read hP1 (fun pr w0 => hok pr w0 _ _ _ _ h1 h2 h3 h4) (c5z_0 o o' c0 c1 n m vs us _ ca fa ch se ro le lc (by decide)) hF2 hF3 (fun x hx => arg5_bd _ _ _ _ _ _ _ _ _ _ _ _ _ x hx) (by simp) (fun σ => arg5_up _ _ _ _ _ _ _ _ _ _ _ _ _ σ) (by intro σ; simp [upV])
        | true => exact con_read hP1 (fun pr w0 => hok pr w0 _ _ _ _ h1 h2 h3 h4) (c5z_1 o o' c0 c1 n m vs us _ ca fa ch se ro le lc (by decide)) hF2 hF3 (fun x hx => arg5_bd _ _ _ _ _ _ _ _ _ _ _ _ _ x hx) (by simp) (fun σ => arg5_up _ _ _ _ _ _ _ _ _ _ _ _ _ σ) (by intro σ; simp [upV])
      | true =>
        cases h1 : b5a n m with
        | false => exact con_read hP1 (fun pr w0 => hok pr w0 _ _ _ _ h1 h2 h3 h4) (c5w_came o o' c0 c1 n m vs us ca fa ch se ro le lc) hF2 hF3 (fun x hx => arg5_bd _ _ _ _ _ _ _ _ _ _ _ _ _ x hx) (by simp) (fun σ => arg5_up _ _ _ _ _ _ _ _ _ _ _ _ _ σ) (by intro σ; simp [upV])
        | true => simp [chk5, h1, h2, h3, h4] at h
end
theorem b5a_len {n m : Nat} (h : b5a n m = true) : n = m ∧ 1 ≤ n ∧ n ≤ 7 := by
  simp only [b5a, Bool.and_eq_true, beq_iff_eq, decide_eq_true_eq] at h
  omega
section
variable {vs us : List Value} {o o' c0 c1 : Nat} {ws gs : List Int} {ca : Int} {fa : Nat} {ch se ro le lc : Int} (hvs : ∀ i b, ws[i]? = some b → vs[o + i]? = some (.int .i64 b)) (hus : ∀ i b, gs[i]? = some b → us[o' + i]? = some (.int .i64 b)) (h : chk5 ws.length gs.length ca ch se ro le lc = true)
include hvs hus h
theorem con5_no (hno : ¬ good17 ws gs) : ConOk Tryz.prog 5 ⟨arg5 o o' c0 c1 ws.length gs.length ca fa ch se ro le lc, oE vs us, 2, fun _ => .int .i64 200, fun _ => []⟩ := by
  simp only [chk5, Bool.and_eq_true] at h
  obtain ⟨h1, h2, h3, h4⟩ := h
  obtain ⟨hl, hl1, hl7⟩ := b5a_len h1
  rw [← hl] at h1 ⊢
  have hF2 : Fits 2 [] (oE vs us) 2 := oE_fits (k := 0) rfl (by simp) (by decide) (by decide)
  have hF3 : Fits 2 [] (o5 vs us (cf (.slice (some ⟨0, o, none⟩) ws.length c0) (.slice (some ⟨1, o', none⟩) ws.length c1) ca fa ch se ro le lc)) 3 := by
    have := o5_fits vs us ca fa ch se ro le lc (s0 := .slice (some ⟨0, o, none⟩) ws.length c0) (s1 := .slice (some ⟨1, o', none⟩) ws.length c1) (by simp) (by simp) (ts := []) rfl (by simp)
    exact ⟨rfl, this.so, by simp, this.bo, this.lim, by decide⟩
  exact con_read hP1 (fun pr w0 => s5_ok (withS_ok (sm0_ok pr w0) (viewS_ok (con17_no hvs hus hl.symm hl1 hl7 hno) [0, 1])) vs us o o' c0 c1 ws.length ws.length ca fa ch se ro le lc h1 h2 h3 h4) (c5n_came o o' c0 c1 ws.length vs us ca fa ch se ro le lc) hF2 hF3 (fun x hx => arg5_bd _ _ _ _ _ _ _ _ _ _ _ _ _ x hx) (by simp) (fun σ => arg5_up _ _ _ _ _ _ _ _ _ _ _ _ _ σ) (by intro σ; simp [upV])
theorem con5_yes (hyes : good17 ws gs) : ConOk Tryz.prog 5 ⟨arg5 o o' c0 c1 ws.length gs.length ca fa ch se ro le lc, oE vs us, 2, fun _ => .int .i64 0, fun _ => []⟩ := by
  simp only [chk5, Bool.and_eq_true] at h
  obtain ⟨h1, h2, h3, h4⟩ := h
  obtain ⟨hl, hl1, hl7⟩ := b5a_len h1
  rw [← hl] at h1 ⊢
  have hF2 : Fits 2 [] (oE vs us) 2 := oE_fits (k := 0) rfl (by simp) (by decide) (by decide)
  refine con_read hP1 (fun pr w0 => s5_ok (withS_ok (sm0_ok pr w0) (viewS_ok (con17_yes hvs hus hl.symm hl1 hl7 hyes) [0, 1])) vs us o o' c0 c1 ws.length ws.length ca fa ch se ro le lc h1 h2 h3 h4) (c5g_came o o' c0 c1 ws.length vs us ws gs ca fa ch se ro le lc) hF2 ?_ (fun x hx => arg5_bd _ _ _ _ _ _ _ _ _ _ _ _ _ x hx) (by simp) (fun σ => arg5_up _ _ _ _ _ _ _ _ _ _ _ _ _ σ) (by intro σ; simp [upV])
  refine ⟨rfl, rfl, by simp, ?_, by decide, by decide⟩
  intro p hp
  simp only [List.mem_cons, List.not_mem_nil, or_false] at hp
  rcases hp with rfl | rfl | rfl | rfl | rfl | rfl
  · exact ⟨by simp, trivial⟩
  · exact ⟨by simp, trivial⟩
  · exact ⟨by simp, by simp [BdO]⟩
  · exact ⟨by simp, ints_bd 6 ws⟩
  · exact ⟨by simp, ints_bd 6 gs⟩
  · refine ⟨by simp, ?_⟩
    intro x hx
    simp only [cs17, List.mem_cons, List.mem_append, ints, List.mem_map, List.not_mem_nil, or_false] at hx
    rcases hx with rfl | rfl | ⟨b, _, rfl⟩ | rfl
    · simp [u17, pickN]
    · simp [u17, pickN]
    · simp
    · simp
end
end Go.Abs
end

section
set_option linter.unusedVariables false
set_option linter.unusedSimpArgs false
set_option linter.unusedSectionVars false
/-
  ClusterChecks: the document's Check.
-/
namespace Go.Abs
open Go.Proofs
set_option maxRecDepth 100000
set_option maxHeartbeats 4000000
set_option linter.unusedVariables false
def wi21 : List Value → Option (List Nat × Con)
  | [.int .i64 a, .int .i64 b, .int .i64 c] => some ([], ⟨fun _ => [.int .i64 a, .int .i64 b, .int .i64 c], [], 0, fun _ => .bool (decide (a ≥ b) && decide (a ≤ c)), fun _ => []⟩)
  | _ => none
def s7 (s : Sm) : Sm := withS s 21 (fnS wi21)
def no22 (o o' c0 c1 n : Nat) (vs us : List Value) : Con := ⟨fun σ => [.slice (some ⟨σ 0, o, none⟩) n c0, .slice (some ⟨σ 1, o', none⟩) n c1], oE vs us, 2, fun _ => .tuple #[.pointer none, .int .i64 200], fun _ => []⟩
def yes22 (o o' c0 c1 n : Nat) (vs us : List Value) (ws gs : List Int) : Con := ⟨fun σ => [.slice (some ⟨σ 0, o, none⟩) n c0, .slice (some ⟨σ 1, o', none⟩) n c1], oE vs us, 2, fun σ => .tuple #[.pointer (some ⟨σ 4, 0, none⟩), .int .i64 0], fun σ => [.cells (ints ws) 1, .cells (ints gs) 1, .cells [.slice (some ⟨σ 2, 0, none⟩) n (2 * n + 1), .slice (some ⟨σ 3, 0, none⟩) n (2 * n + 1)] 0]⟩
theorem c21_0 (a : Int) (b : Int) (c : Int) (h0 : decide (a ≥ b) = true) :
    RanC (runO Tryz.prog E1 (sm0) noRun 100 21 [Value.int IntKind.i64 a, Value.int IntKind.i64 b, Value.int IntKind.i64 c] (mkHp 0 []) [.skip 5, .b true, .skip 1, .b true, .skip 1, .b true, .skip 1, .b true] True) (.returned (Value.bool (decide (a ≤ c)))) [] 0 :=
  cameCF_of (O := ((((True ∧ (decide (a ≥ b) == true) = true) ∧ (decide (a ≥ b) == true) = true) ∧ (decide (a ≥ b) == true) = true) ∧ decide (a ≥ b) = true)) (by kernel_rfl) ⟨⟨⟨⟨trivial, gd h0 rfl⟩, gd h0 rfl⟩, gd h0 rfl⟩, h0⟩

theorem c21_1 (a : Int) (b : Int) (c : Int) (h0 : decide (a ≥ b) = false) :
    RanC (runO Tryz.prog E1 (sm0) noRun 100 21 [Value.int IntKind.i64 a, Value.int IntKind.i64 b, Value.int IntKind.i64 c] (mkHp 0 []) [.skip 5, .b false, .b false, .b false, .b false] True) (.returned (Value.bool false)) [] 0 :=
  cameCF_of (O := ((((True ∧ (decide (a ≥ b) == true) = false) ∧ (decide (a ≥ b) == true) = false) ∧ (decide (a ≥ b) == true) = false) ∧ decide (a ≥ b) = false)) (by kernel_rfl) ⟨⟨⟨⟨trivial, gd h0 rfl⟩, gd h0 rfl⟩, gd h0 rfl⟩, h0⟩
theorem c7_0 (os : List (Nat × AObj)) (a : Option Addr) (a' : Option Addr) (n : Nat) (m : Nat) (c0 : Nat) (c1 : Nat) (ca : Int) (fa : Nat) (ch : Int) (se : Int) (ro : Int) (le : Int) (lc : Int) (h0 : ((↑n : Int) != (↑m : Int)) = true) :
    RanC (runO Tryz.prog E1 (s7 sm0) noRun 100 7 [Value.agg (Array.mk (cf (Value.slice a n c0) (Value.slice a' m c1) ca fa ch se ro le lc))] (mkHp 2 []) [.skip 10, .b false, .b false, .b false, .b false, .b false, .b true] True) (.returned (Value.int IntKind.i64 1)) [(2, AObj.cells [Value.slice a n c0, Value.slice a' m c1, Value.int IntKind.i64 ca, Value.float FloatKind.f64 fa, Value.int IntKind.i64 ch, Value.int IntKind.i64 se, Value.int IntKind.i64 ro, Value.int IntKind.u32 le, Value.int IntKind.u32 lc] 0)] 3 :=
  cameCF_of (O := ((((((True ∧ (((↑n : Int) != (↑m : Int)) == false) = false) ∧ (((↑n : Int) != (↑m : Int)) == false) = false) ∧ (((↑n : Int) != (↑m : Int)) == false) = false) ∧ (((↑n : Int) != (↑m : Int)) == false) = false) ∧ (((↑n : Int) != (↑m : Int)) == false) = false) ∧ ((↑n : Int) != (↑m : Int)) = true)) (by kernel_rfl) ⟨⟨⟨⟨⟨⟨trivial, gd h0 rfl⟩, gd h0 rfl⟩, gd h0 rfl⟩, gd h0 rfl⟩, gd h0 rfl⟩, h0⟩

theorem c7_1 (os : List (Nat × AObj)) (a : Option Addr) (a' : Option Addr) (n : Nat) (m : Nat) (c0 : Nat) (c1 : Nat) (ca : Int) (fa : Nat) (ch : Int) (se : Int) (ro : Int) (le : Int) (lc : Int) (h0 : ((↑n : Int) != (↑m : Int)) = false) (h1 : (!(decide ((↑n : Int) ≥ 1) && decide ((↑n : Int) ≤ 7))) = true) :
    RanC (runO Tryz.prog E1 (s7 sm0) noRun 100 7 [Value.agg (Array.mk (cf (Value.slice a n c0) (Value.slice a' m c1) ca fa ch se ro le lc))] (mkHp 2 []) [.skip 10, .b true, .skip 1, .b true, .skip 1, .b true, .skip 1, .b true, .skip 1, .b true, .skip 1, .b false, .b true] True) (.returned (Value.int IntKind.i64 1)) [(2, AObj.cells [Value.slice a n c0, Value.slice a' m c1, Value.int IntKind.i64 ca, Value.float FloatKind.f64 fa, Value.int IntKind.i64 ch, Value.int IntKind.i64 se, Value.int IntKind.i64 ro, Value.int IntKind.u32 le, Value.int IntKind.u32 lc] 0)] 3 :=
  cameCF_of (O := ((((((((True ∧ (((↑n : Int) != (↑m : Int)) == false) = true) ∧ (((↑n : Int) != (↑m : Int)) == false) = true) ∧ (((↑n : Int) != (↑m : Int)) == false) = true) ∧ (((↑n : Int) != (↑m : Int)) == false) = true) ∧ ([Value.int IntKind.i64 (↑n : Int), Value.int IntKind.i64 1, Value.int IntKind.i64 7] = [Value.int IntKind.i64 (↑n : Int), Value.int IntKind.i64 1, Value.int IntKind.i64 7] ∧ true = true ∧ true = true) ∧ True) ∧ (((↑n : Int) != (↑m : Int)) == false) = true) ∧ ((↑n : Int) != (↑m : Int)) = false) ∧ (!(decide ((↑n : Int) ≥ 1) && decide ((↑n : Int) ≤ 7))) = true)) (by kernel_rfl) ⟨⟨⟨⟨⟨⟨⟨⟨trivial, gd h0 rfl⟩, gd h0 rfl⟩, gd h0 rfl⟩, gd h0 rfl⟩, ⟨⟨rfl, ⟨rfl, rfl⟩⟩, trivial⟩⟩, gd h0 rfl⟩, h0⟩, h1⟩

theorem c7_2 (os : List (Nat × AObj)) (a : Option Addr) (a' : Option Addr) (n : Nat) (m : Nat) (c0 : Nat) (c1 : Nat) (ca : Int) (fa : Nat) (ch : Int) (se : Int) (ro : Int) (le : Int) (lc : Int) (h0 : ((↑n : Int) != (↑m : Int)) = false) (h1 : (!(decide ((↑n : Int) ≥ 1) && decide ((↑n : Int) ≤ 7))) = false) (h2 : (!(decide (ca ≥ 0) && decide (ca ≤ 64))) = true) :
    RanC (runO Tryz.prog E1 (s7 sm0) noRun 100 7 [Value.agg (Array.mk (cf (Value.slice a n c0) (Value.slice a' m c1) ca fa ch se ro le lc))] (mkHp 2 []) [.skip 10, .b true, .skip 1, .b true, .skip 1, .b true, .skip 1, .b true, .skip 1, .b true, .skip 1, .b false, .b false, .skip 5, .b false, .b false, .b false, .b false, .b true] True) (.returned (Value.int IntKind.i64 1)) [(2, AObj.cells [Value.slice a n c0, Value.slice a' m c1, Value.int IntKind.i64 ca, Value.float FloatKind.f64 fa, Value.int IntKind.i64 ch, Value.int IntKind.i64 se, Value.int IntKind.i64 ro, Value.int IntKind.u32 le, Value.int IntKind.u32 lc] 0)] 3 :=
  cameCF_of (O := ((((((((((((((True ∧ (((↑n : Int) != (↑m : Int)) == false) = true) ∧ (((↑n : Int) != (↑m : Int)) == false) = true) ∧ (((↑n : Int) != (↑m : Int)) == false) = true) ∧ (((↑n : Int) != (↑m : Int)) == false) = true) ∧ ([Value.int IntKind.i64 (↑n : Int), Value.int IntKind.i64 1, Value.int IntKind.i64 7] = [Value.int IntKind.i64 (↑n : Int), Value.int IntKind.i64 1, Value.int IntKind.i64 7] ∧ true = true ∧ true = true) ∧ True) ∧ (((↑n : Int) != (↑m : Int)) == false) = true) ∧ ((↑n : Int) != (↑m : Int)) = false) ∧ (!(decide ((↑n : Int) ≥ 1) && decide ((↑n : Int) ≤ 7))) = false) ∧ ([Value.int IntKind.i64 ca, Value.int IntKind.i64 0, Value.int IntKind.i64 64] = [Value.int IntKind.i64 ca, Value.int IntKind.i64 0, Value.int IntKind.i64 64] ∧ true = true ∧ true = true) ∧ True) ∧ ((!(decide (ca ≥ 0) && decide (ca ≤ 64))) == false) = false) ∧ ((!(decide (ca ≥ 0) && decide (ca ≤ 64))) == false) = false) ∧ ((!(decide (ca ≥ 0) && decide (ca ≤ 64))) == false) = false) ∧ ((!(decide (ca ≥ 0) && decide (ca ≤ 64))) == false) = false) ∧ (!(decide (ca ≥ 0) && decide (ca ≤ 64))) = true)) (by kernel_rfl) ⟨⟨⟨⟨⟨⟨⟨⟨⟨⟨⟨⟨⟨⟨trivial, gd h0 rfl⟩, gd h0 rfl⟩, gd h0 rfl⟩, gd h0 rfl⟩, ⟨⟨rfl, ⟨rfl, rfl⟩⟩, trivial⟩⟩, gd h0 rfl⟩, h0⟩, h1⟩, ⟨⟨rfl, ⟨rfl, rfl⟩⟩, trivial⟩⟩, gd h2 rfl⟩, gd h2 rfl⟩, gd h2 rfl⟩, gd h2 rfl⟩, h2⟩

theorem c7_3 (os : List (Nat × AObj)) (a : Option Addr) (a' : Option Addr) (n : Nat) (m : Nat) (c0 : Nat) (c1 : Nat) (ca : Int) (fa : Nat) (ch : Int) (se : Int) (ro : Int) (le : Int) (lc : Int) (h0 : ((↑n : Int) != (↑m : Int)) = false) (h1 : (!(decide ((↑n : Int) ≥ 1) && decide ((↑n : Int) ≤ 7))) = false) (h2 : (!(decide (ca ≥ 0) && decide (ca ≤ 64))) = false) (h3 : (!(decide (ch ≥ 16) && decide (ch ≤ 4096))) = true) :
    RanC (runO Tryz.prog E1 (s7 sm0) noRun 100 7 [Value.agg (Array.mk (cf (Value.slice a n c0) (Value.slice a' m c1) ca fa ch se ro le lc))] (mkHp 2 []) [.skip 10, .b true, .skip 1, .b true, .skip 1, .b true, .skip 1, .b true, .skip 1, .b true, .skip 1, .b false, .b false, .skip 5, .b true, .skip 1, .b true, .skip 1, .b true, .skip 1, .b true, .skip 1, .b false, .skip 1, .b false, .b false, .b false, .b false, .b true] True) (.returned (Value.int IntKind.i64 1)) [(2, AObj.cells [Value.slice a n c0, Value.slice a' m c1, Value.int IntKind.i64 ca, Value.float FloatKind.f64 fa, Value.int IntKind.i64 ch, Value.int IntKind.i64 se, Value.int IntKind.i64 ro, Value.int IntKind.u32 le, Value.int IntKind.u32 lc] 0)] 3 :=
  cameCF_of (O := ((((((((((((((((((((True ∧ (((↑n : Int) != (↑m : Int)) == false) = true) ∧ (((↑n : Int) != (↑m : Int)) == false) = true) ∧ (((↑n : Int) != (↑m : Int)) == false) = true) ∧ (((↑n : Int) != (↑m : Int)) == false) = true) ∧ ([Value.int IntKind.i64 (↑n : Int), Value.int IntKind.i64 1, Value.int IntKind.i64 7] = [Value.int IntKind.i64 (↑n : Int), Value.int IntKind.i64 1, Value.int IntKind.i64 7] ∧ true = true ∧ true = true) ∧ True) ∧ (((↑n : Int) != (↑m : Int)) == false) = true) ∧ ((↑n : Int) != (↑m : Int)) = false) ∧ (!(decide ((↑n : Int) ≥ 1) && decide ((↑n : Int) ≤ 7))) = false) ∧ ([Value.int IntKind.i64 ca, Value.int IntKind.i64 0, Value.int IntKind.i64 64] = [Value.int IntKind.i64 ca, Value.int IntKind.i64 0, Value.int IntKind.i64 64] ∧ true = true ∧ true = true) ∧ True) ∧ ((!(decide (ca ≥ 0) && decide (ca ≤ 64))) == false) = true) ∧ ((!(decide (ca ≥ 0) && decide (ca ≤ 64))) == false) = true) ∧ ((!(decide (ca ≥ 0) && decide (ca ≤ 64))) == false) = true) ∧ ([Value.int IntKind.i64 ch, Value.int IntKind.i64 16, Value.int IntKind.i64 4096] = [Value.int IntKind.i64 ch, Value.int IntKind.i64 16, Value.int IntKind.i64 4096] ∧ true = true ∧ true = true) ∧ True) ∧ ((!(decide (ca ≥ 0) && decide (ca ≤ 64))) == false) = true) ∧ (!(decide (ca ≥ 0) && decide (ca ≤ 64))) = false) ∧ ((!(decide (ch ≥ 16) && decide (ch ≤ 4096))) == false) = false) ∧ ((!(decide (ch ≥ 16) && decide (ch ≤ 4096))) == false) = false) ∧ ((!(decide (ch ≥ 16) && decide (ch ≤ 4096))) == false) = false) ∧ ((!(decide (ch ≥ 16) && decide (ch ≤ 4096))) == false) = false) ∧ (!(decide (ch ≥ 16) && decide (ch ≤ 4096))) = true)) (by kernel_rfl) ⟨⟨⟨⟨⟨⟨⟨⟨⟨⟨⟨⟨⟨⟨⟨⟨⟨⟨⟨⟨trivial, gd h0 rfl⟩, gd h0 rfl⟩, gd h0 rfl⟩, gd h0 rfl⟩, ⟨⟨rfl, ⟨rfl, rfl⟩⟩, trivial⟩⟩, gd h0 rfl⟩, h0⟩, h1⟩, ⟨⟨rfl, ⟨rfl, rfl⟩⟩, trivial⟩⟩, gd h2 rfl⟩, gd h2 rfl⟩, gd h2 rfl⟩, ⟨⟨rfl, ⟨rfl, rfl⟩⟩, trivial⟩⟩, gd h2 rfl⟩, h2⟩, gd h3 rfl⟩, gd h3 rfl⟩, gd h3 rfl⟩, gd h3 rfl⟩, h3⟩

theorem c7_4 (os : List (Nat × AObj)) (a : Option Addr) (a' : Option Addr) (n : Nat) (m : Nat) (c0 : Nat) (c1 : Nat) (ca : Int) (fa : Nat) (ch : Int) (se : Int) (ro : Int) (le : Int) (lc : Int) (h0 : ((↑n : Int) != (↑m : Int)) = false) (h1 : (!(decide ((↑n : Int) ≥ 1) && decide ((↑n : Int) ≤ 7))) = false) (h2 : (!(decide (ca ≥ 0) && decide (ca ≤ 64))) = false) (h3 : (!(decide (ch ≥ 16) && decide (ch ≤ 4096))) = false) (h4 : (!(decide (se ≥ 1) && decide (se ≤ 64))) = true) :
    RanC (runO Tryz.prog E1 (s7 sm0) noRun 100 7 [Value.agg (Array.mk (cf (Value.slice a n c0) (Value.slice a' m c1) ca fa ch se ro le lc))] (mkHp 2 []) [.skip 10, .b true, .skip 1, .b true, .skip 1, .b true, .skip 1, .b true, .skip 1, .b true, .skip 1, .b false, .b false, .skip 5, .b true, .skip 1, .b true, .skip 1, .b true, .skip 1, .b true, .skip 1, .b false, .skip 1, .b true, .skip 1, .b true, .skip 1, .b true, .skip 1, .b true, .skip 1, .b false, .skip 1, .b false, .b false, .b false, .b false, .b true] True) (.returned (Value.int IntKind.i64 1)) [(2, AObj.cells [Value.slice a n c0, Value.slice a' m c1, Value.int IntKind.i64 ca, Value.float FloatKind.f64 fa, Value.int IntKind.i64 ch, Value.int IntKind.i64 se, Value.int IntKind.i64 ro, Value.int IntKind.u32 le, Value.int IntKind.u32 lc] 0)] 3 :=
  cameCF_of (O := ((((((((((((((((((((((((((True ∧ (((↑n : Int) != (↑m : Int)) == false) = true) ∧ (((↑n : Int) != (↑m : Int)) == false) = true) ∧ (((↑n : Int) != (↑m : Int)) == false) = true) ∧ (((↑n : Int) != (↑m : Int)) == false) = true) ∧ ([Value.int IntKind.i64 (↑n : Int), Value.int IntKind.i64 1, Value.int IntKind.i64 7] = [Value.int IntKind.i64 (↑n : Int), Value.int IntKind.i64 1, Value.int IntKind.i64 7] ∧ true = true ∧ true = true) ∧ True) ∧ (((↑n : Int) != (↑m : Int)) == false) = true) ∧ ((↑n : Int) != (↑m : Int)) = false) ∧ (!(decide ((↑n : Int) ≥ 1) && decide ((↑n : Int) ≤ 7))) = false) ∧ ([Value.int IntKind.i64 ca, Value.int IntKind.i64 0, Value.int IntKind.i64 64] = [Value.int IntKind.i64 ca, Value.int IntKind.i64 0, Value.int IntKind.i64 64] ∧ true = true ∧ true = true) ∧ True) ∧ ((!(decide (ca ≥ 0) && decide (ca ≤ 64))) == false) = true) ∧ ((!(decide (ca ≥ 0) && decide (ca ≤ 64))) == false) = true) ∧ ((!(decide (ca ≥ 0) && decide (ca ≤ 64))) == false) = true) ∧ ([Value.int IntKind.i64 ch, Value.int IntKind.i64 16, Value.int IntKind.i64 4096] = [Value.int IntKind.i64 ch, Value.int IntKind.i64 16, Value.int IntKind.i64 4096] ∧ true = true ∧ true = true) ∧ True) ∧ ((!(decide (ca ≥ 0) && decide (ca ≤ 64))) == false) = true) ∧ (!(decide (ca ≥ 0) && decide (ca ≤ 64))) = false) ∧ ((!(decide (ch ≥ 16) && decide (ch ≤ 4096))) == false) = true) ∧ ((!(decide (ch ≥ 16) && decide (ch ≤ 4096))) == false) = true) ∧ ((!(decide (ch ≥ 16) && decide (ch ≤ 4096))) == false) = true) ∧ ([Value.int IntKind.i64 se, Value.int IntKind.i64 1, Value.int IntKind.i64 64] = [Value.int IntKind.i64 se, Value.int IntKind.i64 1, Value.int IntKind.i64 64] ∧ true = true ∧ true = true) ∧ True) ∧ ((!(decide (ch ≥ 16) && decide (ch ≤ 4096))) == false) = true) ∧ (!(decide (ch ≥ 16) && decide (ch ≤ 4096))) = false) ∧ ((!(decide (se ≥ 1) && decide (se ≤ 64))) == false) = false) ∧ ((!(decide (se ≥ 1) && decide (se ≤ 64))) == false) = false) ∧ ((!(decide (se ≥ 1) && decide (se ≤ 64))) == false) = false) ∧ ((!(decide (se ≥ 1) && decide (se ≤ 64))) == false) = false) ∧ (!(decide (se ≥ 1) && decide (se ≤ 64))) = true)) (by kernel_rfl) ⟨⟨⟨⟨⟨⟨⟨⟨⟨⟨⟨⟨⟨⟨⟨⟨⟨⟨⟨⟨⟨⟨⟨⟨⟨⟨trivial, gd h0 rfl⟩, gd h0 rfl⟩, gd h0 rfl⟩, gd h0 rfl⟩, ⟨⟨rfl, ⟨rfl, rfl⟩⟩, trivial⟩⟩, gd h0 rfl⟩, h0⟩, h1⟩, ⟨⟨rfl, ⟨rfl, rfl⟩⟩, trivial⟩⟩, gd h2 rfl⟩, gd h2 rfl⟩, gd h2 rfl⟩, ⟨⟨rfl, ⟨rfl, rfl⟩⟩, trivial⟩⟩, gd h2 rfl⟩, h2⟩, gd h3 rfl⟩, gd h3 rfl⟩, gd h3 rfl⟩, ⟨⟨rfl, ⟨rfl, rfl⟩⟩, trivial⟩⟩, gd h3 rfl⟩, h3⟩, gd h4 rfl⟩, gd h4 rfl⟩, gd h4 rfl⟩, gd h4 rfl⟩, h4⟩

theorem c7_5 (os : List (Nat × AObj)) (a : Option Addr) (a' : Option Addr) (n : Nat) (m : Nat) (c0 : Nat) (c1 : Nat) (ca : Int) (fa : Nat) (ch : Int) (se : Int) (ro : Int) (le : Int) (lc : Int) (h0 : ((↑n : Int) != (↑m : Int)) = false) (h1 : (!(decide ((↑n : Int) ≥ 1) && decide ((↑n : Int) ≤ 7))) = false) (h2 : (!(decide (ca ≥ 0) && decide (ca ≤ 64))) = false) (h3 : (!(decide (ch ≥ 16) && decide (ch ≤ 4096))) = false) (h4 : (!(decide (se ≥ 1) && decide (se ≤ 64))) = false) (h5 : (!(decide (ro ≥ 0) && decide (ro ≤ 16777216))) = true) :
    RanC (runO Tryz.prog E1 (s7 sm0) noRun 100 7 [Value.agg (Array.mk (cf (Value.slice a n c0) (Value.slice a' m c1) ca fa ch se ro le lc))] (mkHp 2 []) [.skip 10, .b true, .skip 1, .b true, .skip 1, .b true, .skip 1, .b true, .skip 1, .b true, .skip 1, .b false, .b false, .skip 5, .b true, .skip 1, .b true, .skip 1, .b true, .skip 1, .b true, .skip 1, .b false, .skip 1, .b true, .skip 1, .b true, .skip 1, .b true, .skip 1, .b true, .skip 1, .b false, .skip 1, .b true, .skip 1, .b true, .skip 1, .b true, .skip 1, .b true, .skip 1, .b false, .b true] True) (.returned (Value.int IntKind.i64 1)) [(2, AObj.cells [Value.slice a n c0, Value.slice a' m c1, Value.int IntKind.i64 ca, Value.float FloatKind.f64 fa, Value.int IntKind.i64 ch, Value.int IntKind.i64 se, Value.int IntKind.i64 ro, Value.int IntKind.u32 le, Value.int IntKind.u32 lc] 0)] 3 :=
  cameCF_of (O := ((((((((((((((((((((((((((((True ∧ (((↑n : Int) != (↑m : Int)) == false) = true) ∧ (((↑n : Int) != (↑m : Int)) == false) = true) ∧ (((↑n : Int) != (↑m : Int)) == false) = true) ∧ (((↑n : Int) != (↑m : Int)) == false) = true) ∧ ([Value.int IntKind.i64 (↑n : Int), Value.int IntKind.i64 1, Value.int IntKind.i64 7] = [Value.int IntKind.i64 (↑n : Int), Value.int IntKind.i64 1, Value.int IntKind.i64 7] ∧ true = true ∧ true = true) ∧ True) ∧ (((↑n : Int) != (↑m : Int)) == false) = true) ∧ ((↑n : Int) != (↑m : Int)) = false) ∧ (!(decide ((↑n : Int) ≥ 1) && decide ((↑n : Int) ≤ 7))) = false) ∧ ([Value.int IntKind.i64 ca, Value.int IntKind.i64 0, Value.int IntKind.i64 64] = [Value.int IntKind.i64 ca, Value.int IntKind.i64 0, Value.int IntKind.i64 64] ∧ true = true ∧ true = true) ∧ True) ∧ ((!(decide (ca ≥ 0) && decide (ca ≤ 64))) == false) = true) ∧ ((!(decide (ca ≥ 0) && decide (ca ≤ 64))) == false) = true) ∧ ((!(decide (ca ≥ 0) && decide (ca ≤ 64))) == false) = true) ∧ ([Value.int IntKind.i64 ch, Value.int IntKind.i64 16, Value.int IntKind.i64 4096] = [Value.int IntKind.i64 ch, Value.int IntKind.i64 16, Value.int IntKind.i64 4096] ∧ true = true ∧ true = true) ∧ True) ∧ ((!(decide (ca ≥ 0) && decide (ca ≤ 64))) == false) = true) ∧ (!(decide (ca ≥ 0) && decide (ca ≤ 64))) = false) ∧ ((!(decide (ch ≥ 16) && decide (ch ≤ 4096))) == false) = true) ∧ ((!(decide (ch ≥ 16) && decide (ch ≤ 4096))) == false) = true) ∧ ((!(decide (ch ≥ 16) && decide (ch ≤ 4096))) == false) = true) ∧ ([Value.int IntKind.i64 se, Value.int IntKind.i64 1, Value.int IntKind.i64 64] = [Value.int IntKind.i64 se, Value.int IntKind.i64 1, Value.int IntKind.i64 64] ∧ true = true ∧ true = true) ∧ True) ∧ ((!(decide (ch ≥ 16) && decide (ch ≤ 4096))) == false) = true) ∧ (!(decide (ch ≥ 16) && decide (ch ≤ 4096))) = false) ∧ ((!(decide (se ≥ 1) && decide (se ≤ 64))) == false) = true) ∧ ((!(decide (se ≥ 1) && decide (se ≤ 64))) == false) = true) ∧ ((!(decide (se ≥ 1) && decide (se ≤ 64))) == false) = true) ∧ ([Value.int IntKind.i64 ro, Value.int IntKind.i64 0, Value.int IntKind.i64 16777216] = [Value.int IntKind.i64 ro, Value.int IntKind.i64 0, Value.int IntKind.i64 16777216] ∧ true = true ∧ true = true) ∧ True) ∧ ((!(decide (se ≥ 1) && decide (se ≤ 64))) == false) = true) ∧ (!(decide (se ≥ 1) && decide (se ≤ 64))) = false) ∧ (!(decide (ro ≥ 0) && decide (ro ≤ 16777216))) = true)) (by kernel_rfl) ⟨⟨⟨⟨⟨⟨⟨⟨⟨⟨⟨⟨⟨⟨⟨⟨⟨⟨⟨⟨⟨⟨⟨⟨⟨⟨⟨⟨trivial, gd h0 rfl⟩, gd h0 rfl⟩, gd h0 rfl⟩, gd h0 rfl⟩, ⟨⟨rfl, ⟨rfl, rfl⟩⟩, trivial⟩⟩, gd h0 rfl⟩, h0⟩, h1⟩, ⟨⟨rfl, ⟨rfl, rfl⟩⟩, trivial⟩⟩, gd h2 rfl⟩, gd h2 rfl⟩, gd h2 rfl⟩, ⟨⟨rfl, ⟨rfl, rfl⟩⟩, trivial⟩⟩, gd h2 rfl⟩, h2⟩, gd h3 rfl⟩, gd h3 rfl⟩, gd h3 rfl⟩, ⟨⟨rfl, ⟨rfl, rfl⟩⟩, trivial⟩⟩, gd h3 rfl⟩, h3⟩, gd h4 rfl⟩, gd h4 rfl⟩, gd h4 rfl⟩, ⟨⟨rfl, ⟨rfl, rfl⟩⟩, trivial⟩⟩, gd h4 rfl⟩, h4⟩, h5⟩

theorem c7_6 (os : List (Nat × AObj)) (a : Option Addr) (a' : Option Addr) (n : Nat) (m : Nat) (c0 : Nat) (c1 : Nat) (ca : Int) (fa : Nat) (ch : Int) (se : Int) (ro : Int) (le : Int) (lc : Int) (h0 : ((↑n : Int) != (↑m : Int)) = false) (h1 : (!(decide ((↑n : Int) ≥ 1) && decide ((↑n : Int) ≤ 7))) = false) (h2 : (!(decide (ca ≥ 0) && decide (ca ≤ 64))) = false) (h3 : (!(decide (ch ≥ 16) && decide (ch ≤ 4096))) = false) (h4 : (!(decide (se ≥ 1) && decide (se ≤ 64))) = false) (h5 : (!(decide (ro ≥ 0) && decide (ro ≤ 16777216))) = false) (h6 : decide (le < 1) = true) :
    RanC (runO Tryz.prog E1 (s7 sm0) noRun 100 7 [Value.agg (Array.mk (cf (Value.slice a n c0) (Value.slice a' m c1) ca fa ch se ro le lc))] (mkHp 2 []) [.skip 10, .b true, .skip 1, .b true, .skip 1, .b true, .skip 1, .b true, .skip 1, .b true, .skip 1, .b false, .b false, .skip 5, .b true, .skip 1, .b true, .skip 1, .b true, .skip 1, .b true, .skip 1, .b false, .skip 1, .b true, .skip 1, .b true, .skip 1, .b true, .skip 1, .b true, .skip 1, .b false, .skip 1, .b true, .skip 1, .b true, .skip 1, .b true, .skip 1, .b true, .skip 1, .b false, .b false, .skip 4, .b false, .b false, .b false, .b true] True) (.returned (Value.int IntKind.i64 1)) [(2, AObj.cells [Value.slice a n c0, Value.slice a' m c1, Value.int IntKind.i64 ca, Value.float FloatKind.f64 fa, Value.int IntKind.i64 ch, Value.int IntKind.i64 se, Value.int IntKind.i64 ro, Value.int IntKind.u32 le, Value.int IntKind.u32 lc] 0)] 3 :=
  cameCF_of (O := ((((((((((((((((((((((((((((((((True ∧ (((↑n : Int) != (↑m : Int)) == false) = true) ∧ (((↑n : Int) != (↑m : Int)) == false) = true) ∧ (((↑n : Int) != (↑m : Int)) == false) = true) ∧ (((↑n : Int) != (↑m : Int)) == false) = true) ∧ ([Value.int IntKind.i64 (↑n : Int), Value.int IntKind.i64 1, Value.int IntKind.i64 7] = [Value.int IntKind.i64 (↑n : Int), Value.int IntKind.i64 1, Value.int IntKind.i64 7] ∧ true = true ∧ true = true) ∧ True) ∧ (((↑n : Int) != (↑m : Int)) == false) = true) ∧ ((↑n : Int) != (↑m : Int)) = false) ∧ (!(decide ((↑n : Int) ≥ 1) && decide ((↑n : Int) ≤ 7))) = false) ∧ ([Value.int IntKind.i64 ca, Value.int IntKind.i64 0, Value.int IntKind.i64 64] = [Value.int IntKind.i64 ca, Value.int IntKind.i64 0, Value.int IntKind.i64 64] ∧ true = true ∧ true = true) ∧ True) ∧ ((!(decide (ca ≥ 0) && decide (ca ≤ 64))) == false) = true) ∧ ((!(decide (ca ≥ 0) && decide (ca ≤ 64))) == false) = true) ∧ ((!(decide (ca ≥ 0) && decide (ca ≤ 64))) == false) = true) ∧ ([Value.int IntKind.i64 ch, Value.int IntKind.i64 16, Value.int IntKind.i64 4096] = [Value.int IntKind.i64 ch, Value.int IntKind.i64 16, Value.int IntKind.i64 4096] ∧ true = true ∧ true = true) ∧ True) ∧ ((!(decide (ca ≥ 0) && decide (ca ≤ 64))) == false) = true) ∧ (!(decide (ca ≥ 0) && decide (ca ≤ 64))) = false) ∧ ((!(decide (ch ≥ 16) && decide (ch ≤ 4096))) == false) = true) ∧ ((!(decide (ch ≥ 16) && decide (ch ≤ 4096))) == false) = true) ∧ ((!(decide (ch ≥ 16) && decide (ch ≤ 4096))) == false) = true) ∧ ([Value.int IntKind.i64 se, Value.int IntKind.i64 1, Value.int IntKind.i64 64] = [Value.int IntKind.i64 se, Value.int IntKind.i64 1, Value.int IntKind.i64 64] ∧ true = true ∧ true = true) ∧ True) ∧ ((!(decide (ch ≥ 16) && decide (ch ≤ 4096))) == false) = true) ∧ (!(decide (ch ≥ 16) && decide (ch ≤ 4096))) = false) ∧ ((!(decide (se ≥ 1) && decide (se ≤ 64))) == false) = true) ∧ ((!(decide (se ≥ 1) && decide (se ≤ 64))) == false) = true) ∧ ((!(decide (se ≥ 1) && decide (se ≤ 64))) == false) = true) ∧ ([Value.int IntKind.i64 ro, Value.int IntKind.i64 0, Value.int IntKind.i64 16777216] = [Value.int IntKind.i64 ro, Value.int IntKind.i64 0, Value.int IntKind.i64 16777216] ∧ true = true ∧ true = true) ∧ True) ∧ ((!(decide (se ≥ 1) && decide (se ≤ 64))) == false) = true) ∧ (!(decide (se ≥ 1) && decide (se ≤ 64))) = false) ∧ (!(decide (ro ≥ 0) && decide (ro ≤ 16777216))) = false) ∧ (decide (le < 1) == false) = false) ∧ (decide (le < 1) == false) = false) ∧ (decide (le < 1) == false) = false) ∧ decide (le < 1) = true)) (by kernel_rfl) ⟨⟨⟨⟨⟨⟨⟨⟨⟨⟨⟨⟨⟨⟨⟨⟨⟨⟨⟨⟨⟨⟨⟨⟨⟨⟨⟨⟨⟨⟨⟨⟨trivial, gd h0 rfl⟩, gd h0 rfl⟩, gd h0 rfl⟩, gd h0 rfl⟩, ⟨⟨rfl, ⟨rfl, rfl⟩⟩, trivial⟩⟩, gd h0 rfl⟩, h0⟩, h1⟩, ⟨⟨rfl, ⟨rfl, rfl⟩⟩, trivial⟩⟩, gd h2 rfl⟩, gd h2 rfl⟩, gd h2 rfl⟩, ⟨⟨rfl, ⟨rfl, rfl⟩⟩, trivial⟩⟩, gd h2 rfl⟩, h2⟩, gd h3 rfl⟩, gd h3 rfl⟩, gd h3 rfl⟩, ⟨⟨rfl, ⟨rfl, rfl⟩⟩, trivial⟩⟩, gd h3 rfl⟩, h3⟩, gd h4 rfl⟩, gd h4 rfl⟩, gd h4 rfl⟩, ⟨⟨rfl, ⟨rfl, rfl⟩⟩, trivial⟩⟩, gd h4 rfl⟩, h4⟩, h5⟩, gd h6 rfl⟩, gd h6 rfl⟩, gd h6 rfl⟩, h6⟩

theorem c7_7 (os : List (Nat × AObj)) (a : Option Addr) (a' : Option Addr) (n : Nat) (m : Nat) (c0 : Nat) (c1 : Nat) (ca : Int) (fa : Nat) (ch : Int) (se : Int) (ro : Int) (le : Int) (lc : Int) (h0 : ((↑n : Int) != (↑m : Int)) = false) (h1 : (!(decide ((↑n : Int) ≥ 1) && decide ((↑n : Int) ≤ 7))) = false) (h2 : (!(decide (ca ≥ 0) && decide (ca ≤ 64))) = false) (h3 : (!(decide (ch ≥ 16) && decide (ch ≤ 4096))) = false) (h4 : (!(decide (se ≥ 1) && decide (se ≤ 64))) = false) (h5 : (!(decide (ro ≥ 0) && decide (ro ≤ 16777216))) = false) (h6 : decide (le < 1) = false) (h7 : decide (le > 2147483647) = true) :
    RanC (runO Tryz.prog E1 (s7 sm0) noRun 100 7 [Value.agg (Array.mk (cf (Value.slice a n c0) (Value.slice a' m c1) ca fa ch se ro le lc))] (mkHp 2 []) [.skip 10, .b true, .skip 1, .b true, .skip 1, .b true, .skip 1, .b true, .skip 1, .b true, .skip 1, .b false, .b false, .skip 5, .b true, .skip 1, .b true, .skip 1, .b true, .skip 1, .b true, .skip 1, .b false, .skip 1, .b true, .skip 1, .b true, .skip 1, .b true, .skip 1, .b true, .skip 1, .b false, .skip 1, .b true, .skip 1, .b true, .skip 1, .b true, .skip 1, .b true, .skip 1, .b false, .b false, .skip 4, .b true, .skip 1, .b true, .skip 1, .b true, .skip 1, .b false, .skip 1, .b false, .b false, .b false, .b true] True) (.returned (Value.int IntKind.i64 1)) [(2, AObj.cells [Value.slice a n c0, Value.slice a' m c1, Value.int IntKind.i64 ca, Value.float FloatKind.f64 fa, Value.int IntKind.i64 ch, Value.int IntKind.i64 se, Value.int IntKind.i64 ro, Value.int IntKind.u32 le, Value.int IntKind.u32 lc] 0)] 3 :=
  cameCF_of (O := ((((((((((((((((((((((((((((((((((((True ∧ (((↑n : Int) != (↑m : Int)) == false) = true) ∧ (((↑n : Int) != (↑m : Int)) == false) = true) ∧ (((↑n : Int) != (↑m : Int)) == false) = true) ∧ (((↑n : Int) != (↑m : Int)) == false) = true) ∧ ([Value.int IntKind.i64 (↑n : Int), Value.int IntKind.i64 1, Value.int IntKind.i64 7] = [Value.int IntKind.i64 (↑n : Int), Value.int IntKind.i64 1, Value.int IntKind.i64 7] ∧ true = true ∧ true = true) ∧ True) ∧ (((↑n : Int) != (↑m : Int)) == false) = true) ∧ ((↑n : Int) != (↑m : Int)) = false) ∧ (!(decide ((↑n : Int) ≥ 1) && decide ((↑n : Int) ≤ 7))) = false) ∧ ([Value.int IntKind.i64 ca, Value.int IntKind.i64 0, Value.int IntKind.i64 64] = [Value.int IntKind.i64 ca, Value.int IntKind.i64 0, Value.int IntKind.i64 64] ∧ true = true ∧ true = true) ∧ True) ∧ ((!(decide (ca ≥ 0) && decide (ca ≤ 64))) == false) = true) ∧ ((!(decide (ca ≥ 0) && decide (ca ≤ 64))) == false) = true) ∧ ((!(decide (ca ≥ 0) && decide (ca ≤ 64))) == false) = true) ∧ ([Value.int IntKind.i64 ch, Value.int IntKind.i64 16, Value.int IntKind.i64 4096] = [Value.int IntKind.i64 ch, Value.int IntKind.i64 16, Value.int IntKind.i64 4096] ∧ true = true ∧ true = true) ∧ True) ∧ ((!(decide (ca ≥ 0) && decide (ca ≤ 64))) == false) = true) ∧ (!(decide (ca ≥ 0) && decide (ca ≤ 64))) = false) ∧ ((!(decide (ch ≥ 16) && decide (ch ≤ 4096))) == false) = true) ∧ ((!(decide (ch ≥ 16) && decide (ch ≤ 4096))) == false) = true) ∧ ((!(decide (ch ≥ 16) && decide (ch ≤ 4096))) == false) = true) ∧ ([Value.int IntKind.i64 se, Value.int IntKind.i64 1, Value.int IntKind.i64 64] = [Value.int IntKind.i64 se, Value.int IntKind.i64 1, Value.int IntKind.i64 64] ∧ true = true ∧ true = true) ∧ True) ∧ ((!(decide (ch ≥ 16) && decide (ch ≤ 4096))) == false) = true) ∧ (!(decide (ch ≥ 16) && decide (ch ≤ 4096))) = false) ∧ ((!(decide (se ≥ 1) && decide (se ≤ 64))) == false) = true) ∧ ((!(decide (se ≥ 1) && decide (se ≤ 64))) == false) = true) ∧ ((!(decide (se ≥ 1) && decide (se ≤ 64))) == false) = true) ∧ ([Value.int IntKind.i64 ro, Value.int IntKind.i64 0, Value.int IntKind.i64 16777216] = [Value.int IntKind.i64 ro, Value.int IntKind.i64 0, Value.int IntKind.i64 16777216] ∧ true = true ∧ true = true) ∧ True) ∧ ((!(decide (se ≥ 1) && decide (se ≤ 64))) == false) = true) ∧ (!(decide (se ≥ 1) && decide (se ≤ 64))) = false) ∧ (!(decide (ro ≥ 0) && decide (ro ≤ 16777216))) = false) ∧ (decide (le < 1) == false) = true) ∧ (decide (le < 1) == false) = true) ∧ (decide (le < 1) == false) = true) ∧ decide (le < 1) = false) ∧ (decide (le > 2147483647) == false) = false) ∧ (decide (le > 2147483647) == false) = false) ∧ (decide (le > 2147483647) == false) = false) ∧ decide (le > 2147483647) = true)) (by kernel_rfl) ⟨⟨⟨⟨⟨⟨⟨⟨⟨⟨⟨⟨⟨⟨⟨⟨⟨⟨⟨⟨⟨⟨⟨⟨⟨⟨⟨⟨⟨⟨⟨⟨⟨⟨⟨⟨trivial, gd h0 rfl⟩, gd h0 rfl⟩, gd h0 rfl⟩, gd h0 rfl⟩, ⟨⟨rfl, ⟨rfl, rfl⟩⟩, trivial⟩⟩, gd h0 rfl⟩, h0⟩, h1⟩, ⟨⟨rfl, ⟨rfl, rfl⟩⟩, trivial⟩⟩, gd h2 rfl⟩, gd h2 rfl⟩, gd h2 rfl⟩, ⟨⟨rfl, ⟨rfl, rfl⟩⟩, trivial⟩⟩, gd h2 rfl⟩, h2⟩, gd h3 rfl⟩, gd h3 rfl⟩, gd h3 rfl⟩, ⟨⟨rfl, ⟨rfl, rfl⟩⟩, trivial⟩⟩, gd h3 rfl⟩, h3⟩, gd h4 rfl⟩, gd h4 rfl⟩, gd h4 rfl⟩, ⟨⟨rfl, ⟨rfl, rfl⟩⟩, trivial⟩⟩, gd h4 rfl⟩, h4⟩, h5⟩, gd h6 rfl⟩, gd h6 rfl⟩, gd h6 rfl⟩, h6⟩, gd h7 rfl⟩, gd h7 rfl⟩, gd h7 rfl⟩, h7⟩

theorem c7_8 (os : List (Nat × AObj)) (a : Option Addr) (a' : Option Addr) (n : Nat) (m : Nat) (c0 : Nat) (c1 : Nat) (ca : Int) (fa : Nat) (ch : Int) (se : Int) (ro : Int) (le : Int) (lc : Int) (h0 : ((↑n : Int) != (↑m : Int)) = false) (h1 : (!(decide ((↑n : Int) ≥ 1) && decide ((↑n : Int) ≤ 7))) = false) (h2 : (!(decide (ca ≥ 0) && decide (ca ≤ 64))) = false) (h3 : (!(decide (ch ≥ 16) && decide (ch ≤ 4096))) = false) (h4 : (!(decide (se ≥ 1) && decide (se ≤ 64))) = false) (h5 : (!(decide (ro ≥ 0) && decide (ro ≤ 16777216))) = false) (h6 : decide (le < 1) = false) (h7 : decide (le > 2147483647) = false) (h8 : decide (lc < 1) = true) :
    RanC (runO Tryz.prog E1 (s7 sm0) noRun 100 7 [Value.agg (Array.mk (cf (Value.slice a n c0) (Value.slice a' m c1) ca fa ch se ro le lc))] (mkHp 2 []) [.skip 10, .b true, .skip 1, .b true, .skip 1, .b true, .skip 1, .b true, .skip 1, .b true, .skip 1, .b false, .b false, .skip 5, .b true, .skip 1, .b true, .skip 1, .b true, .skip 1, .b true, .skip 1, .b false, .skip 1, .b true, .skip 1, .b true, .skip 1, .b true, .skip 1, .b true, .skip 1, .b false, .skip 1, .b true, .skip 1, .b true, .skip 1, .b true, .skip 1, .b true, .skip 1, .b false, .b false, .skip 4, .b true, .skip 1, .b true, .skip 1, .b true, .skip 1, .b false, .skip 1, .b true, .skip 1, .b true, .skip 1, .b true, .skip 1, .b false, .b true] True) (.returned (Value.int IntKind.i64 1)) [(2, AObj.cells [Value.slice a n c0, Value.slice a' m c1, Value.int IntKind.i64 ca, Value.float FloatKind.f64 fa, Value.int IntKind.i64 ch, Value.int IntKind.i64 se, Value.int IntKind.i64 ro, Value.int IntKind.u32 le, Value.int IntKind.u32 lc] 0)] 3 :=
  cameCF_of (O := (((((((((((((((((((((((((((((((((((((True ∧ (((↑n : Int) != (↑m : Int)) == false) = true) ∧ (((↑n : Int) != (↑m : Int)) == false) = true) ∧ (((↑n : Int) != (↑m : Int)) == false) = true) ∧ (((↑n : Int) != (↑m : Int)) == false) = true) ∧ ([Value.int IntKind.i64 (↑n : Int), Value.int IntKind.i64 1, Value.int IntKind.i64 7] = [Value.int IntKind.i64 (↑n : Int), Value.int IntKind.i64 1, Value.int IntKind.i64 7] ∧ true = true ∧ true = true) ∧ True) ∧ (((↑n : Int) != (↑m : Int)) == false) = true) ∧ ((↑n : Int) != (↑m : Int)) = false) ∧ (!(decide ((↑n : Int) ≥ 1) && decide ((↑n : Int) ≤ 7))) = false) ∧ ([Value.int IntKind.i64 ca, Value.int IntKind.i64 0, Value.int IntKind.i64 64] = [Value.int IntKind.i64 ca, Value.int IntKind.i64 0, Value.int IntKind.i64 64] ∧ true = true ∧ true = true) ∧ True) ∧ ((!(decide (ca ≥ 0) && decide (ca ≤ 64))) == false) = true) ∧ ((!(decide (ca ≥ 0) && decide (ca ≤ 64))) == false) = true) ∧ ((!(decide (ca ≥ 0) && decide (ca ≤ 64))) == false) = true) ∧ ([Value.int IntKind.i64 ch, Value.int IntKind.i64 16, Value.int IntKind.i64 4096] = [Value.int IntKind.i64 ch, Value.int IntKind.i64 16, Value.int IntKind.i64 4096] ∧ true = true ∧ true = true) ∧ True) ∧ ((!(decide (ca ≥ 0) && decide (ca ≤ 64))) == false) = true) ∧ (!(decide (ca ≥ 0) && decide (ca ≤ 64))) = false) ∧ ((!(decide (ch ≥ 16) && decide (ch ≤ 4096))) == false) = true) ∧ ((!(decide (ch ≥ 16) && decide (ch ≤ 4096))) == false) = true) ∧ ((!(decide (ch ≥ 16) && decide (ch ≤ 4096))) == false) = true) ∧ ([Value.int IntKind.i64 se, Value.int IntKind.i64 1, Value.int IntKind.i64 64] = [Value.int IntKind.i64 se, Value.int IntKind.i64 1, Value.int IntKind.i64 64] ∧ true = true ∧ true = true) ∧ True) ∧ ((!(decide (ch ≥ 16) && decide (ch ≤ 4096))) == false) = true) ∧ (!(decide (ch ≥ 16) && decide (ch ≤ 4096))) = false) ∧ ((!(decide (se ≥ 1) && decide (se ≤ 64))) == false) = true) ∧ ((!(decide (se ≥ 1) && decide (se ≤ 64))) == false) = true) ∧ ((!(decide (se ≥ 1) && decide (se ≤ 64))) == false) = true) ∧ ([Value.int IntKind.i64 ro, Value.int IntKind.i64 0, Value.int IntKind.i64 16777216] = [Value.int IntKind.i64 ro, Value.int IntKind.i64 0, Value.int IntKind.i64 16777216] ∧ true = true ∧ true = true) ∧ True) ∧ ((!(decide (se ≥ 1) && decide (se ≤ 64))) == false) = true) ∧ (!(decide (se ≥ 1) && decide (se ≤ 64))) = false) ∧ (!(decide (ro ≥ 0) && decide (ro ≤ 16777216))) = false) ∧ (decide (le < 1) == false) = true) ∧ (decide (le < 1) == false) = true) ∧ (decide (le < 1) == false) = true) ∧ decide (le < 1) = false) ∧ (decide (le > 2147483647) == false) = true) ∧ (decide (le > 2147483647) == false) = true) ∧ (decide (le > 2147483647) == false) = true) ∧ decide (le > 2147483647) = false) ∧ decide (lc < 1) = true)) (by kernel_rfl) ⟨⟨⟨⟨⟨⟨⟨⟨⟨⟨⟨⟨⟨⟨⟨⟨⟨⟨⟨⟨⟨⟨⟨⟨⟨⟨⟨⟨⟨⟨⟨⟨⟨⟨⟨⟨⟨trivial, gd h0 rfl⟩, gd h0 rfl⟩, gd h0 rfl⟩, gd h0 rfl⟩, ⟨⟨rfl, ⟨rfl, rfl⟩⟩, trivial⟩⟩, gd h0 rfl⟩, h0⟩, h1⟩, ⟨⟨rfl, ⟨rfl, rfl⟩⟩, trivial⟩⟩, gd h2 rfl⟩, gd h2 rfl⟩, gd h2 rfl⟩, ⟨⟨rfl, ⟨rfl, rfl⟩⟩, trivial⟩⟩, gd h2 rfl⟩, h2⟩, gd h3 rfl⟩, gd h3 rfl⟩, gd h3 rfl⟩, ⟨⟨rfl, ⟨rfl, rfl⟩⟩, trivial⟩⟩, gd h3 rfl⟩, h3⟩, gd h4 rfl⟩, gd h4 rfl⟩, gd h4 rfl⟩, ⟨⟨rfl, ⟨rfl, rfl⟩⟩, trivial⟩⟩, gd h4 rfl⟩, h4⟩, h5⟩, gd h6 rfl⟩, gd h6 rfl⟩, gd h6 rfl⟩, h6⟩, gd h7 rfl⟩, gd h7 rfl⟩, gd h7 rfl⟩, h7⟩, h8⟩
theorem c7n_came (o : Nat) (o' : Nat) (c0 : Nat) (c1 : Nat) (n : Nat) (vs : List Value) (us : List Value) (ca : Int) (fa : Nat) (ch : Int) (se : Int) (ro : Int) (le : Int) (lc : Int) (h0 : ((↑n : Int) != (↑n : Int)) = false) (h1 : (!(decide ((↑n : Int) ≥ 1) && decide ((↑n : Int) ≤ 7))) = false) (h2 : (!(decide (ca ≥ 0) && decide (ca ≤ 64))) = false) (h3 : (!(decide (ch ≥ 16) && decide (ch ≤ 4096))) = false) (h4 : (!(decide (se ≥ 1) && decide (se ≤ 64))) = false) (h5 : (!(decide (ro ≥ 0) && decide (ro ≤ 16777216))) = false) (h6 : decide (le < 1) = false) (h7 : decide (le > 2147483647) = false) (h8 : decide (lc < 1) = false) :
    RanC (runO Tryz.prog E1 (s7 (withS sm0 22 (viewS [0, 1] (no22 o o' c0 c1 n vs us)))) noRun 100 7 [Value.agg (Array.mk (cf (Value.slice (some (Addr.mk 0 o none)) n c0) (Value.slice (some (Addr.mk 1 o' none)) n c1) ca fa ch se ro le lc))] (mkHp 2 (oE vs us)) [.skip 10, .b true, .skip 1, .b true, .skip 1, .b true, .skip 1, .b true, .skip 1, .b true, .skip 1, .b false, .b false, .skip 5, .b true, .skip 1, .b true, .skip 1, .b true, .skip 1, .b true, .skip 1, .b false, .skip 1, .b true, .skip 1, .b true, .skip 1, .b true, .skip 1, .b true, .skip 1, .b false, .skip 1, .b true, .skip 1, .b true, .skip 1, .b true, .skip 1, .b true, .skip 1, .b false, .b false, .skip 4, .b true, .skip 1, .b true, .skip 1, .b true, .skip 1, .b false, .skip 1, .b true, .skip 1, .b true, .skip 1, .b true, .skip 1, .b false, .b false] True) (.returned (Value.int IntKind.i64 200)) [(0, AObj.rov vs), (1, AObj.rov us), (2, AObj.cells [Value.slice (some (Addr.mk 0 o none)) n c0, Value.slice (some (Addr.mk 1 o' none)) n c1, Value.int IntKind.i64 ca, Value.float FloatKind.f64 fa, Value.int IntKind.i64 ch, Value.int IntKind.i64 se, Value.int IntKind.i64 ro, Value.int IntKind.u32 le, Value.int IntKind.u32 lc] 0)] 3 :=
  cameCF_of (O := ((((((((((((((((((((((((((((((((((((((True ∧ (((↑n : Int) != (↑n : Int)) == false) = true) ∧ (((↑n : Int) != (↑n : Int)) == false) = true) ∧ (((↑n : Int) != (↑n : Int)) == false) = true) ∧ (((↑n : Int) != (↑n : Int)) == false) = true) ∧ ([Value.int IntKind.i64 (↑n : Int), Value.int IntKind.i64 1, Value.int IntKind.i64 7] = [Value.int IntKind.i64 (↑n : Int), Value.int IntKind.i64 1, Value.int IntKind.i64 7] ∧ true = true ∧ true = true) ∧ True) ∧ (((↑n : Int) != (↑n : Int)) == false) = true) ∧ ((↑n : Int) != (↑n : Int)) = false) ∧ (!(decide ((↑n : Int) ≥ 1) && decide ((↑n : Int) ≤ 7))) = false) ∧ ([Value.int IntKind.i64 ca, Value.int IntKind.i64 0, Value.int IntKind.i64 64] = [Value.int IntKind.i64 ca, Value.int IntKind.i64 0, Value.int IntKind.i64 64] ∧ true = true ∧ true = true) ∧ True) ∧ ((!(decide (ca ≥ 0) && decide (ca ≤ 64))) == false) = true) ∧ ((!(decide (ca ≥ 0) && decide (ca ≤ 64))) == false) = true) ∧ ((!(decide (ca ≥ 0) && decide (ca ≤ 64))) == false) = true) ∧ ([Value.int IntKind.i64 ch, Value.int IntKind.i64 16, Value.int IntKind.i64 4096] = [Value.int IntKind.i64 ch, Value.int IntKind.i64 16, Value.int IntKind.i64 4096] ∧ true = true ∧ true = true) ∧ True) ∧ ((!(decide (ca ≥ 0) && decide (ca ≤ 64))) == false) = true) ∧ (!(decide (ca ≥ 0) && decide (ca ≤ 64))) = false) ∧ ((!(decide (ch ≥ 16) && decide (ch ≤ 4096))) == false) = true) ∧ ((!(decide (ch ≥ 16) && decide (ch ≤ 4096))) == false) = true) ∧ ((!(decide (ch ≥ 16) && decide (ch ≤ 4096))) == false) = true) ∧ ([Value.int IntKind.i64 se, Value.int IntKind.i64 1, Value.int IntKind.i64 64] = [Value.int IntKind.i64 se, Value.int IntKind.i64 1, Value.int IntKind.i64 64] ∧ true = true ∧ true = true) ∧ True) ∧ ((!(decide (ch ≥ 16) && decide (ch ≤ 4096))) == false) = true) ∧ (!(decide (ch ≥ 16) && decide (ch ≤ 4096))) = false) ∧ ((!(decide (se ≥ 1) && decide (se ≤ 64))) == false) = true) ∧ ((!(decide (se ≥ 1) && decide (se ≤ 64))) == false) = true) ∧ ((!(decide (se ≥ 1) && decide (se ≤ 64))) == false) = true) ∧ ([Value.int IntKind.i64 ro, Value.int IntKind.i64 0, Value.int IntKind.i64 16777216] = [Value.int IntKind.i64 ro, Value.int IntKind.i64 0, Value.int IntKind.i64 16777216] ∧ true = true ∧ true = true) ∧ True) ∧ ((!(decide (se ≥ 1) && decide (se ≤ 64))) == false) = true) ∧ (!(decide (se ≥ 1) && decide (se ≤ 64))) = false) ∧ (!(decide (ro ≥ 0) && decide (ro ≤ 16777216))) = false) ∧ (decide (le < 1) == false) = true) ∧ (decide (le < 1) == false) = true) ∧ (decide (le < 1) == false) = true) ∧ decide (le < 1) = false) ∧ (decide (le > 2147483647) == false) = true) ∧ (decide (le > 2147483647) == false) = true) ∧ (decide (le > 2147483647) == false) = true) ∧ decide (le > 2147483647) = false) ∧ decide (lc < 1) = false) ∧ ([Value.slice (some (Addr.mk 0 o none)) n c0, Value.slice (some (Addr.mk 1 o' none)) n c1] = [Value.slice (some (Addr.mk 0 o none)) n c0, Value.slice (some (Addr.mk 1 o' none)) n c1] ∧ true = true ∧ true = true) ∧ vs = vs ∧ us = us ∧ True)) (by kernel_rfl) ⟨⟨⟨⟨⟨⟨⟨⟨⟨⟨⟨⟨⟨⟨⟨⟨⟨⟨⟨⟨⟨⟨⟨⟨⟨⟨⟨⟨⟨⟨⟨⟨⟨⟨⟨⟨⟨⟨trivial, gd h0 rfl⟩, gd h0 rfl⟩, gd h0 rfl⟩, gd h0 rfl⟩, ⟨⟨rfl, ⟨rfl, rfl⟩⟩, trivial⟩⟩, gd h0 rfl⟩, h0⟩, h1⟩, ⟨⟨rfl, ⟨rfl, rfl⟩⟩, trivial⟩⟩, gd h2 rfl⟩, gd h2 rfl⟩, gd h2 rfl⟩, ⟨⟨rfl, ⟨rfl, rfl⟩⟩, trivial⟩⟩, gd h2 rfl⟩, h2⟩, gd h3 rfl⟩, gd h3 rfl⟩, gd h3 rfl⟩, ⟨⟨rfl, ⟨rfl, rfl⟩⟩, trivial⟩⟩, gd h3 rfl⟩, h3⟩, gd h4 rfl⟩, gd h4 rfl⟩, gd h4 rfl⟩, ⟨⟨rfl, ⟨rfl, rfl⟩⟩, trivial⟩⟩, gd h4 rfl⟩, h4⟩, h5⟩, gd h6 rfl⟩, gd h6 rfl⟩, gd h6 rfl⟩, h6⟩, gd h7 rfl⟩, gd h7 rfl⟩, gd h7 rfl⟩, h7⟩, h8⟩, ⟨⟨rfl, ⟨rfl, rfl⟩⟩, ⟨rfl, ⟨rfl, trivial⟩⟩⟩⟩
theorem c7g_came (o : Nat) (o' : Nat) (c0 : Nat) (c1 : Nat) (n : Nat) (vs : List Value) (us : List Value) (ws : List Int) (gs : List Int) (ca : Int) (fa : Nat) (ch : Int) (se : Int) (ro : Int) (le : Int) (lc : Int) (h0 : ((↑n : Int) != (↑n : Int)) = false) (h1 : (!(decide ((↑n : Int) ≥ 1) && decide ((↑n : Int) ≤ 7))) = false) (h2 : (!(decide (ca ≥ 0) && decide (ca ≤ 64))) = false) (h3 : (!(decide (ch ≥ 16) && decide (ch ≤ 4096))) = false) (h4 : (!(decide (se ≥ 1) && decide (se ≤ 64))) = false) (h5 : (!(decide (ro ≥ 0) && decide (ro ≤ 16777216))) = false) (h6 : decide (le < 1) = false) (h7 : decide (le > 2147483647) = false) (h8 : decide (lc < 1) = false) :
    RanC (runO Tryz.prog E1 (s7 (withS sm0 22 (viewS [0, 1] (yes22 o o' c0 c1 n vs us ws gs)))) noRun 100 7 [Value.agg (Array.mk (cf (Value.slice (some (Addr.mk 0 o none)) n c0) (Value.slice (some (Addr.mk 1 o' none)) n c1) ca fa ch se ro le lc))] (mkHp 2 (oE vs us)) [.skip 10, .b true, .skip 1, .b true, .skip 1, .b true, .skip 1, .b true, .skip 1, .b true, .skip 1, .b false, .b false, .skip 5, .b true, .skip 1, .b true, .skip 1, .b true, .skip 1, .b true, .skip 1, .b false, .skip 1, .b true, .skip 1, .b true, .skip 1, .b true, .skip 1, .b true, .skip 1, .b false, .skip 1, .b true, .skip 1, .b true, .skip 1, .b true, .skip 1, .b true, .skip 1, .b false, .b false, .skip 4, .b true, .skip 1, .b true, .skip 1, .b true, .skip 1, .b false, .skip 1, .b true, .skip 1, .b true, .skip 1, .b true, .skip 1, .b false, .b false] True) (.returned (Value.int IntKind.i64 0)) [(0, AObj.rov vs), (1, AObj.rov us), (2, AObj.cells [Value.slice (some (Addr.mk 0 o none)) n c0, Value.slice (some (Addr.mk 1 o' none)) n c1, Value.int IntKind.i64 ca, Value.float FloatKind.f64 fa, Value.int IntKind.i64 ch, Value.int IntKind.i64 se, Value.int IntKind.i64 ro, Value.int IntKind.u32 le, Value.int IntKind.u32 lc] 0), (3, AObj.cells (ints ws) 1), (4, AObj.cells (ints gs) 1), (5, AObj.cells [Value.slice (some (Addr.mk 3 0 none)) n (2 * n + 1), Value.slice (some (Addr.mk 4 0 none)) n (2 * n + 1)] 0)] 6 :=
  cameCF_of (O := ((((((((((((((((((((((((((((((((((((((True ∧ (((↑n : Int) != (↑n : Int)) == false) = true) ∧ (((↑n : Int) != (↑n : Int)) == false) = true) ∧ (((↑n : Int) != (↑n : Int)) == false) = true) ∧ (((↑n : Int) != (↑n : Int)) == false) = true) ∧ ([Value.int IntKind.i64 (↑n : Int), Value.int IntKind.i64 1, Value.int IntKind.i64 7] = [Value.int IntKind.i64 (↑n : Int), Value.int IntKind.i64 1, Value.int IntKind.i64 7] ∧ true = true ∧ true = true) ∧ True) ∧ (((↑n : Int) != (↑n : Int)) == false) = true) ∧ ((↑n : Int) != (↑n : Int)) = false) ∧ (!(decide ((↑n : Int) ≥ 1) && decide ((↑n : Int) ≤ 7))) = false) ∧ ([Value.int IntKind.i64 ca, Value.int IntKind.i64 0, Value.int IntKind.i64 64] = [Value.int IntKind.i64 ca, Value.int IntKind.i64 0, Value.int IntKind.i64 64] ∧ true = true ∧ true = true) ∧ True) ∧ ((!(decide (ca ≥ 0) && decide (ca ≤ 64))) == false) = true) ∧ ((!(decide (ca ≥ 0) && decide (ca ≤ 64))) == false) = true) ∧ ((!(decide (ca ≥ 0) && decide (ca ≤ 64))) == false) = true) ∧ ([Value.int IntKind.i64 ch, Value.int IntKind.i64 16, Value.int IntKind.i64 4096] = [Value.int IntKind.i64 ch, Value.int IntKind.i64 16, Value.int IntKind.i64 4096] ∧ true = true ∧ true = true) ∧ True) ∧ ((!(decide (ca ≥ 0) && decide (ca ≤ 64))) == false) = true) ∧ (!(decide (ca ≥ 0) && decide (ca ≤ 64))) = false) ∧ ((!(decide (ch ≥ 16) && decide (ch ≤ 4096))) == false) = true) ∧ ((!(decide (ch ≥ 16) && decide (ch ≤ 4096))) == false) = true) ∧ ((!(decide (ch ≥ 16) && decide (ch ≤ 4096))) == false) = true) ∧ ([Value.int IntKind.i64 se, Value.int IntKind.i64 1, Value.int IntKind.i64 64] = [Value.int IntKind.i64 se, Value.int IntKind.i64 1, Value.int IntKind.i64 64] ∧ true = true ∧ true = true) ∧ True) ∧ ((!(decide (ch ≥ 16) && decide (ch ≤ 4096))) == false) = true) ∧ (!(decide (ch ≥ 16) && decide (ch ≤ 4096))) = false) ∧ ((!(decide (se ≥ 1) && decide (se ≤ 64))) == false) = true) ∧ ((!(decide (se ≥ 1) && decide (se ≤ 64))) == false) = true) ∧ ((!(decide (se ≥ 1) && decide (se ≤ 64))) == false) = true) ∧ ([Value.int IntKind.i64 ro, Value.int IntKind.i64 0, Value.int IntKind.i64 16777216] = [Value.int IntKind.i64 ro, Value.int IntKind.i64 0, Value.int IntKind.i64 16777216] ∧ true = true ∧ true = true) ∧ True) ∧ ((!(decide (se ≥ 1) && decide (se ≤ 64))) == false) = true) ∧ (!(decide (se ≥ 1) && decide (se ≤ 64))) = false) ∧ (!(decide (ro ≥ 0) && decide (ro ≤ 16777216))) = false) ∧ (decide (le < 1) == false) = true) ∧ (decide (le < 1) == false) = true) ∧ (decide (le < 1) == false) = true) ∧ decide (le < 1) = false) ∧ (decide (le > 2147483647) == false) = true) ∧ (decide (le > 2147483647) == false) = true) ∧ (decide (le > 2147483647) == false) = true) ∧ decide (le > 2147483647) = false) ∧ decide (lc < 1) = false) ∧ ([Value.slice (some (Addr.mk 0 o none)) n c0, Value.slice (some (Addr.mk 1 o' none)) n c1] = [Value.slice (some (Addr.mk 0 o none)) n c0, Value.slice (some (Addr.mk 1 o' none)) n c1] ∧ true = true ∧ true = true) ∧ vs = vs ∧ us = us ∧ True)) (by kernel_rfl) ⟨⟨⟨⟨⟨⟨⟨⟨⟨⟨⟨⟨⟨⟨⟨⟨⟨⟨⟨⟨⟨⟨⟨⟨⟨⟨⟨⟨⟨⟨⟨⟨⟨⟨⟨⟨⟨⟨trivial, gd h0 rfl⟩, gd h0 rfl⟩, gd h0 rfl⟩, gd h0 rfl⟩, ⟨⟨rfl, ⟨rfl, rfl⟩⟩, trivial⟩⟩, gd h0 rfl⟩, h0⟩, h1⟩, ⟨⟨rfl, ⟨rfl, rfl⟩⟩, trivial⟩⟩, gd h2 rfl⟩, gd h2 rfl⟩, gd h2 rfl⟩, ⟨⟨rfl, ⟨rfl, rfl⟩⟩, trivial⟩⟩, gd h2 rfl⟩, h2⟩, gd h3 rfl⟩, gd h3 rfl⟩, gd h3 rfl⟩, ⟨⟨rfl, ⟨rfl, rfl⟩⟩, trivial⟩⟩, gd h3 rfl⟩, h3⟩, gd h4 rfl⟩, gd h4 rfl⟩, gd h4 rfl⟩, ⟨⟨rfl, ⟨rfl, rfl⟩⟩, trivial⟩⟩, gd h4 rfl⟩, h4⟩, h5⟩, gd h6 rfl⟩, gd h6 rfl⟩, gd h6 rfl⟩, h6⟩, gd h7 rfl⟩, gd h7 rfl⟩, gd h7 rfl⟩, h7⟩, h8⟩, ⟨⟨rfl, ⟨rfl, rfl⟩⟩, ⟨rfl, ⟨rfl, trivial⟩⟩⟩⟩
end Go.Abs
end
