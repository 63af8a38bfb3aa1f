/-
  The two numbers of a session: digest.Session's (by the abstract machine, over every world) and the document's are one.
-/
import Derived.Test.YtnbhpnnjmfeafaaAmUse
import Derived.Test.YtnbhpnnjmfeafaaPDigestSessionsx1
namespace Go.Proofs.Ytnbhpnnjmfeafaa
open Go.Abs Go.RowKit

def fnvStep (h b : Int) : Int := IntKind.u64.wrap (IntKind.u64.wrap ((BitVec.ofInt IntKind.u64.bits h ^^^ BitVec.ofInt IntKind.u64.bits (IntKind.u64.wrap b)).toNat) * 1099511628211)
def wb (v : Int) (i : Nat) : Int := IntKind.u8.wrap ((IntKind.u64.wrap v).fdiv (2 ^ min (8 * (i : Int)).toNat IntKind.u64.bits))
def wbytes (id t : Int) : List Int := [wb 2 0, wb id 7, wb id 6, wb id 5, wb id 4, wb id 3, wb id 2, wb id 1, wb id 0, wb t 3, wb t 2, wb t 1, wb t 0]
def num (id t : Int) : Int := (wbytes id t).foldl fnvStep 14695981039346656037
theorem noGoTry : noGo Try.prog = true := by kernel_rfl
theorem mixTry : Try.prog.follows .mixedOrders = true := by kernel_rfl
set_option maxRecDepth 100000 in
theorem ans4 (id t : Int) : answer (run Try.prog (env Try.prog) noSum 1000 4 [.agg #[.int .i64 id, .int .i32 t]] μ0) = some (.int .u64 (num id t)) := by kernel_rfl
theorem calls4 (id t : Int) (w : World) : Calls Try.prog 4 #[.agg #[.int .i64 id, .int .i32 t]] w fun e w' => e = .returned (.int .u64 (num id t)) ∧ Below w.heap.size w w' :=
  calls_of_answer mixTry noGoTry (ans4 id t) (fun x hx => by simp at hx; subst hx; intro ι; simp) (fun ι => by simp) w

/-! ### The document's -/
def rstep (n : Int) : Int := IntKind.u64.wrap (Int.tdiv n 256)
def rb (n : Int) : Int := (Int.tmod n 256) % 256
def dig8 (n : Int) : List Int := [rb (rstep (rstep (rstep (rstep (rstep (rstep (rstep n))))))), rb (rstep (rstep (rstep (rstep (rstep (rstep n)))))), rb (rstep (rstep (rstep (rstep (rstep n))))), rb (rstep (rstep (rstep (rstep n)))), rb (rstep (rstep (rstep n))), rb (rstep (rstep n)), rb (rstep n), rb n]
def dig4 (n : Int) : List Int := [rb (rstep (rstep (rstep n))), rb (rstep (rstep n)), rb (rstep n), rb n]
def fnv2 (h b : Int) : Int := IntKind.u64.wrap ((Go.bits .xor .u64 h (IntKind.u64.wrap b)) * 1099511628211)
open PDigestSessions
set_option maxRecDepth 100000 in
theorem digits8 (n : Int) : lagoonref01_digits.f 20 n 8 = some (dig8 n) := by kernel_rfl
set_option maxRecDepth 100000 in
theorem digits4 (n : Int) : lagoonref01_digits.f 20 n 4 = some (dig4 n) := by kernel_rfl
set_option maxRecDepth 100000 in
theorem neg8 (a b c d e f g h : Int) : lagoonref01_Int64.l0 20 [a, b, c, d, e, f, g, h] 0 = some [(255 - a) % 256, (255 - b) % 256, (255 - c) % 256, (255 - d) % 256, (255 - e) % 256, (255 - f) % 256, (255 - g) % 256, (255 - h) % 256] := by kernel_rfl
set_option maxRecDepth 100000 in
theorem join8 (x a b c d e f g h : Int) : lagoonref08_join.f 20 [x] [a, b, c, d, e, f, g, h] = some [x, a, b, c, d, e, f, g, h] := by kernel_rfl
set_option maxRecDepth 100000 in
theorem join4 (x a b c d e f g h i j k l : Int) : lagoonref08_join.f 20 [x, a, b, c, d, e, f, g, h] [i, j, k, l] = some [x, a, b, c, d, e, f, g, h, i, j, k, l] := by kernel_rfl
set_option maxRecDepth 100000 in
theorem number13 (x a b c d e f g h i j k l : Int) : lagoonref08_Number.f 20 [x, a, b, c, d, e, f, g, h, i, j, k, l] = some ([x, a, b, c, d, e, f, g, h, i, j, k, l].foldl fnv2 14695981039346656037) := by kernel_rfl
set_option maxRecDepth 100000 in
theorem int8_2 : lagoonref01_Int8.f 2 = some [2] := by kernel_rfl

theorem fnv_eq (h b : Int) : fnv2 h b = fnvStep h b := by
  unfold fnv2 fnvStep; rfl

theorem u64_wrap (n : Int) : IntKind.u64.wrap n = n % 18446744073709551616 := by unfold IntKind.wrap; simp [IntKind.signed, IntKind.bits]
theorem u8_wrap (n : Int) : IntKind.u8.wrap n = n % 256 := by unfold IntKind.wrap; simp [IntKind.signed, IntKind.bits]
theorem rstep_eq {n : Int} (h0 : 0 ≤ n) (h1 : n < 18446744073709551616) : rstep n = n / 256 := by
  unfold rstep; rw [u64_wrap, Int.tdiv_eq_ediv_of_nonneg h0, Int.emod_eq_of_lt] <;> omega
theorem rb_eq {n : Int} (h0 : 0 ≤ n) : rb n = n % 256 := by
  unfold rb; rw [Int.tmod_eq_emod_of_nonneg h0]; omega
theorem dig8_eq {n : Int} (h0 : 0 ≤ n) (h1 : n < 18446744073709551616) : dig8 n = [n / 72057594037927936 % 256, n / 281474976710656 % 256, n / 1099511627776 % 256, n / 4294967296 % 256, n / 16777216 % 256, n / 65536 % 256, n / 256 % 256, n % 256] := by
  unfold dig8
  rw [rstep_eq h0 h1]
  have e1 := rstep_eq (n := n / 256) (by omega) (by omega)
  have e2 := rstep_eq (n := n / 256 / 256) (by omega) (by omega)
  have e3 := rstep_eq (n := n / 256 / 256 / 256) (by omega) (by omega)
  have e4 := rstep_eq (n := n / 256 / 256 / 256 / 256) (by omega) (by omega)
  have e5 := rstep_eq (n := n / 256 / 256 / 256 / 256 / 256) (by omega) (by omega)
  have e6 := rstep_eq (n := n / 256 / 256 / 256 / 256 / 256 / 256) (by omega) (by omega)
  rw [e1, e2, e3, e4, e5, e6, rb_eq h0, rb_eq (by omega), rb_eq (by omega), rb_eq (by omega), rb_eq (by omega), rb_eq (by omega), rb_eq (by omega), rb_eq (by omega)]
  simp only [List.cons.injEq, and_true]
  omega
theorem dig4_eq {n : Int} (h0 : 0 ≤ n) (h1 : n < 18446744073709551616) : dig4 n = [n / 16777216 % 256, n / 65536 % 256, n / 256 % 256, n % 256] := by
  unfold dig4
  rw [rstep_eq h0 h1]
  have e1 := rstep_eq (n := n / 256) (by omega) (by omega)
  have e2 := rstep_eq (n := n / 256 / 256) (by omega) (by omega)
  rw [e1, e2, rb_eq h0, rb_eq (by omega), rb_eq (by omega), rb_eq (by omega)]
  simp only [List.cons.injEq, and_true]
  omega
theorem wb_eq (v : Int) (i : Nat) (hi : i < 8) : wb v i = v % 18446744073709551616 / 2 ^ (8 * i) % 256 := by
  unfold wb
  have e : (8 * (i : Int)).toNat = 8 * i := by omega
  have e2 : min (8 * i) IntKind.u64.bits = 8 * i := by simp [IntKind.bits]; omega
  rw [u8_wrap, u64_wrap, e, e2, Int.fdiv_eq_ediv_of_nonneg _ (by exact Int.le_of_lt (Int.pow_pos (by decide)))]
def bytes8 (n : Int) : List Int := [n / 72057594037927936 % 256, n / 281474976710656 % 256, n / 1099511627776 % 256, n / 4294967296 % 256, n / 16777216 % 256, n / 65536 % 256, n / 256 % 256, n % 256]
theorem wbytes_eq (id t : Int) : wbytes id t = 2 :: (bytes8 (id % 18446744073709551616) ++ [t % 18446744073709551616 / 16777216 % 256, t % 18446744073709551616 / 65536 % 256, t % 18446744073709551616 / 256 % 256, t % 18446744073709551616 % 256]) := by
  unfold wbytes bytes8
  rw [wb_eq 2 0 (by decide), wb_eq id 7 (by decide), wb_eq id 6 (by decide), wb_eq id 5 (by decide), wb_eq id 4 (by decide), wb_eq id 3 (by decide), wb_eq id 2 (by decide), wb_eq id 1 (by decide), wb_eq id 0 (by decide), wb_eq t 3 (by decide), wb_eq t 2 (by decide), wb_eq t 1 (by decide), wb_eq t 0 (by decide)]
  simp
theorem wrap64_small {n : Int} (h0 : -9223372036854775808 ≤ n) (h1 : n ≤ 9223372036854775807) : wrap64 n = n := by
  unfold wrap64; omega
theorem int64_bytes {id : Int} (h0 : -9223372036854775808 ≤ id) (h1 : id ≤ 9223372036854775807) : lagoonref01_Int64.f 20 id = some (bytes8 (id % 18446744073709551616)) := by
  unfold lagoonref01_Int64.f
  by_cases h : id ≥ 0
  · rw [if_pos h, digits8, u64_wrap, dig8_eq (by omega) (by omega)]; rfl
  · rw [if_neg h, digits8, wrap64_small (by omega) (by omega), u64_wrap, dig8_eq (by omega) (by omega)]
    simp only [Option.bind_some]
    rw [neg8]
    unfold bytes8
    simp only [Option.some.injEq, List.cons.injEq, and_true]
    omega
theorem int32_bytes {t : Int} (h0 : -2147483648 ≤ t) (h1 : t ≤ 2147483647) : lagoonref01_Int32.f 20 t = some [t % 18446744073709551616 / 16777216 % 256, t % 18446744073709551616 / 65536 % 256, t % 18446744073709551616 / 256 % 256, t % 18446744073709551616 % 256] := by
  unfold lagoonref01_Int32.f
  rw [wrap64_small (n := t) (by omega) (by omega)]
  by_cases h : t < 0
  · rw [if_pos h, digits4, wrap64_small (by omega) (by omega), u64_wrap, dig4_eq (by omega) (by omega)]
    simp only [Option.bind_some, Option.some.injEq, List.cons.injEq, and_true]
    omega
  · rw [if_neg h, digits4, u64_wrap, dig4_eq (by omega) (by omega)]; rfl
theorem sess_eq {id t : Int} (h0 : -9223372036854775808 ≤ id) (h1 : id ≤ 9223372036854775807) (h2 : -2147483648 ≤ t) (h3 : t ≤ 2147483647) : lagoonref08_Session.f 20 id t = some (num id t) := by
  unfold lagoonref08_Session.f
  rw [int8_2, int64_bytes h0 h1, int32_bytes h2 h3]
  unfold bytes8
  simp only [Option.bind_some]
  rw [join8]
  simp only [Option.bind_some]
  rw [join4]
  simp only [Option.bind_some]
  rw [number13]
  simp only [Option.bind_some, Option.some.injEq]
  rw [num, wbytes_eq, show fnv2 = fnvStep from funext fun h => funext fun b => fnv_eq h b]
  rfl
theorem calls5 {id t : Int} (h0 : -9223372036854775808 ≤ id) (h1 : id ≤ 9223372036854775807) (h2 : -2147483648 ≤ t) (h3 : t ≤ 2147483647) (w : World) :
    Calls Try.prog 5 #[.agg #[.int .i64 id, .int .i32 t]] w fun e w' => e = .returned (.int .u64 (num id t)) ∧ Below w.heap.size w w' :=
  lagoonref08_Session.calls 20 id t _ w (sess_eq h0 h1 h2 h3)
end Go.Proofs.Ytnbhpnnjmfeafaa
