/- The word functions: what each of them answers. -/
import Derived.Test.YtljkkfcokpimkaaFt
import Derived.Test.YtljkkfcokpimkaaXp
import Derived.Test.YtljkkfcokpimkaaWp
set_option linter.unusedVariables false
set_option linter.unusedSimpArgs false
set_option maxRecDepth 20000
namespace Go.Proofs.Ytljkkfcokpimkaa.X
open Go Go.RowKit

theorem i64_wrap (n : Int) : IntKind.i64.wrap n = wrap64 n := by simp only [IntKind.wrap, wrap64, IntKind.bits, IntKind.signed]; simp; omega
theorem i64_id {n : Int} (h0 : -9223372036854775808 ≤ n) (h1 : n < 9223372036854775808) : IntKind.i64.wrap n = n := by rw [i64_wrap]; unfold wrap64; omega
theorem u64_id {n : Int} (h0 : 0 ≤ n) (h1 : n < 18446744073709551616) : IntKind.u64.wrap n = n := by rw [u64_wrap]; omega
theorem u8_wrap (n : Int) : IntKind.u8.wrap n = n % 256 := IntKind.wrap_u8 n
def headN (s n : Int) : Int := s % 1048576 * 2 + n % 1048576 * 2097152 + 1
theorem headN_lo (s n : Int) : 0 ≤ headN s n := by unfold headN; omega
theorem headN_hi (s n : Int) : headN s n < 18446744073709551616 := by unfold headN; omega
def withN (h : Int) (p l : Nat) (x : Int) : Int := h - h / 2 ^ p % 2 ^ l * 2 ^ p + x % 2 ^ l * 2 ^ p
theorem and20' (x : Int) : bits .and .u64 (IntKind.u64.wrap x) 1048575 = x % 1048576 := by
  rw [u64_wrap, and20 _ (by omega) (by omega)]; omega
theorem headN_bits (s n : Int) : bits .or .u64 (bits .or .u64 (IntKind.u64.wrap (bits .and .u64 (IntKind.u64.wrap s) 1048575 * 2)) (IntKind.u64.wrap (bits .and .u64 (IntKind.u64.wrap n) 1048575 * 2097152))) 1 = headN s n := by
  rw [and20', and20', u64_id (n := s % 1048576 * 2) (by omega) (by omega), u64_id (n := n % 1048576 * 2097152) (by omega) (by omega), or_comm (s % 1048576 * 2),
    or_join 21 (n % 1048576 * 2097152) (s % 1048576 * 2) (by omega) (by simp only [Int.reducePow]; omega) (by omega) (by omega) (by simp only [Int.reducePow]; omega) (by omega), or_join 1 (n % 1048576 * 2097152 + s % 1048576 * 2) 1 (by omega) (by simp only [Int.reducePow]; omega) (by omega) (by omega) (by simp only [Int.reducePow]; omega) (by omega)]
  unfold headN; omega
section
variable {h : H}
theorem wrap_c (n : Int) (K : AV → H → Prop) : C 40 [.int .i64 n] h K = K (.int .i64 (W n)) h := by
  refine callA_eq (run40 ?_) K
  have e := wrap_half n
  simp only [sh40, go_sem, reduceIte, Nat.reduceAdd, Nat.reduceSub, Nat.reduceMul, Nat.reducePow, Nat.reduceLT, Nat.reduceLeDiff, Nat.reduceEqDiff, Int.reduceAdd, Int.reduceSub, Int.reduceMul, Int.reduceNeg, Int.reducePow, Int.reduceLT, Int.reduceLE, Int.reduceEq, Int.reduceNe, Int.reduceToNat, Int.toNat_natCast, Nat.zero_add, Nat.add_zero, Nat.mul_one, Nat.one_mul, Bool.not_true, Bool.not_false, ne_eq, not_true_eq_false, not_false_eq_true, Bool.false_eq_true, i64_wrap, e]
theorem add_c (a b : Int) (K : AV → H → Prop) : C 38 [.int .i64 a, .int .i64 b] h K = K (.int .i64 (W (a + b))) h := by
  refine callA_eq (run38 ?_) K
  simp only [sh38, go_sem, reduceIte, Nat.reduceAdd, Nat.reduceSub, Nat.reduceMul, Nat.reducePow, Nat.reduceLT, Nat.reduceLeDiff, Nat.reduceEqDiff, Int.reduceAdd, Int.reduceSub, Int.reduceMul, Int.reduceNeg, Int.reducePow, Int.reduceLT, Int.reduceLE, Int.reduceEq, Int.reduceNe, Int.reduceToNat, Int.toNat_natCast, Nat.zero_add, Nat.add_zero, Nat.mul_one, Nat.one_mul, Bool.not_true, Bool.not_false, ne_eq, not_true_eq_false, not_false_eq_true, Bool.false_eq_true, wrap_c, i64_wrap, W_wrap]
theorem sub_c (a b : Int) (K : AV → H → Prop) : C 39 [.int .i64 a, .int .i64 b] h K = K (.int .i64 (W (a - b))) h := by
  refine callA_eq (run39 ?_) K
  simp only [sh39, go_sem, reduceIte, Nat.reduceAdd, Nat.reduceSub, Nat.reduceMul, Nat.reducePow, Nat.reduceLT, Nat.reduceLeDiff, Nat.reduceEqDiff, Int.reduceAdd, Int.reduceSub, Int.reduceMul, Int.reduceNeg, Int.reducePow, Int.reduceLT, Int.reduceLE, Int.reduceEq, Int.reduceNe, Int.reduceToNat, Int.toNat_natCast, Nat.zero_add, Nat.add_zero, Nat.mul_one, Nat.one_mul, Bool.not_true, Bool.not_false, ne_eq, not_true_eq_false, not_false_eq_true, Bool.false_eq_true, wrap_c, i64_wrap, W_wrap]
theorem mul_c (a b : Int) (K : AV → H → Prop) : C 28 [.int .i64 a, .int .i64 b] h K = K (.int .i64 (W (a * b))) h := by
  refine callA_eq (run28 ?_) K
  simp only [sh28, go_sem, reduceIte, Nat.reduceAdd, Nat.reduceSub, Nat.reduceMul, Nat.reducePow, Nat.reduceLT, Nat.reduceLeDiff, Nat.reduceEqDiff, Int.reduceAdd, Int.reduceSub, Int.reduceMul, Int.reduceNeg, Int.reducePow, Int.reduceLT, Int.reduceLE, Int.reduceEq, Int.reduceNe, Int.reduceToNat, Int.toNat_natCast, Nat.zero_add, Nat.add_zero, Nat.mul_one, Nat.one_mul, Bool.not_true, Bool.not_false, ne_eq, not_true_eq_false, not_false_eq_true, Bool.false_eq_true, wrap_c, i64_wrap, W_wrap]
theorem imm_c (n : Int) (K : AV → H → Prop) : C 83 [.int .i64 n] h K = K (.int .u64 (n * 2 % 18446744073709551616 + 1)) h := by
  refine callA_eq (run83 ?_) K
  have e : bits .or .u64 (IntKind.u64.wrap (IntKind.u64.wrap n * 2)) 1 = n * 2 % 18446744073709551616 + 1 := by
    rw [u64_wrap, u64_wrap, or_join 1 _ _ (by omega) (by simp only [Int.reducePow]; omega) (by omega) (by omega) (by simp only [Int.reducePow]; omega) (by omega)]
    omega
  simp only [sh83, go_sem, reduceIte, Nat.reduceAdd, Nat.reduceSub, Nat.reduceMul, Nat.reducePow, Nat.reduceLT, Nat.reduceLeDiff, Nat.reduceEqDiff, Int.reduceAdd, Int.reduceSub, Int.reduceMul, Int.reduceNeg, Int.reducePow, Int.reduceLT, Int.reduceLE, Int.reduceEq, Int.reduceNe, Int.reduceToNat, Int.toNat_natCast, Nat.zero_add, Nat.add_zero, Nat.mul_one, Nat.one_mul, Bool.not_true, Bool.not_false, ne_eq, not_true_eq_false, not_false_eq_true, Bool.false_eq_true, e]
theorem int_c (n : Int) (K : AV → H → Prop) : C 99 [.int .u64 n] h K = K (.int .i64 (wrap64 n / 2)) h := by
  refine callA_eq (run99 ?_) K
  simp only [sh99, go_sem, reduceIte, Nat.reduceAdd, Nat.reduceSub, Nat.reduceMul, Nat.reducePow, Nat.reduceLT, Nat.reduceLeDiff, Nat.reduceEqDiff, Int.reduceAdd, Int.reduceSub, Int.reduceMul, Int.reduceNeg, Int.reducePow, Int.reduceLT, Int.reduceLE, Int.reduceEq, Int.reduceNe, Int.reduceToNat, Int.toNat_natCast, Nat.zero_add, Nat.add_zero, Nat.mul_one, Nat.one_mul, Bool.not_true, Bool.not_false, ne_eq, not_true_eq_false, not_false_eq_true, Bool.false_eq_true, i64_wrap]
theorem isImm_c {w : Int} (h0 : 0 ≤ w) (h1 : w < 18446744073709551616) (K : AV → H → Prop) : C 48 [.int .u64 w] h K = K (.bool (decide (w % 2 = 1))) h := by
  refine callA_eq (run48 ?_) K
  simp only [sh48, go_sem, reduceIte, Nat.reduceAdd, Nat.reduceSub, Nat.reduceMul, Nat.reducePow, Nat.reduceLT, Nat.reduceLeDiff, Nat.reduceEqDiff, Int.reduceAdd, Int.reduceSub, Int.reduceMul, Int.reduceNeg, Int.reducePow, Int.reduceLT, Int.reduceLE, Int.reduceEq, Int.reduceNe, Int.reduceToNat, Int.toNat_natCast, Nat.zero_add, Nat.add_zero, Nat.mul_one, Nat.one_mul, Bool.not_true, Bool.not_false, ne_eq, not_true_eq_false, not_false_eq_true, Bool.false_eq_true, and1 w h0 (by omega)]
theorem ptr_c (n : Int) (K : AV → H → Prop) : C 82 [.int .i64 n] h K = K (.int .u64 (n * 2 % 18446744073709551616)) h := by
  refine callA_eq (run82 ?_) K
  have e : bits .or .u64 (IntKind.u64.wrap (IntKind.u64.wrap n * 2)) 0 = n * 2 % 18446744073709551616 := by
    rw [u64_wrap, u64_wrap, or_join 1 _ _ (by omega) (by simp only [Int.reducePow]; omega) (by omega) (by omega) (by simp only [Int.reducePow]; omega) (by omega)]
    omega
  simp only [sh82, go_sem, reduceIte, Nat.reduceAdd, Nat.reduceSub, Nat.reduceMul, Nat.reducePow, Nat.reduceLT, Nat.reduceLeDiff, Nat.reduceEqDiff, Int.reduceAdd, Int.reduceSub, Int.reduceMul, Int.reduceNeg, Int.reducePow, Int.reduceLT, Int.reduceLE, Int.reduceEq, Int.reduceNe, Int.reduceToNat, Int.toNat_natCast, Nat.zero_add, Nat.add_zero, Nat.mul_one, Nat.one_mul, Bool.not_true, Bool.not_false, ne_eq, not_true_eq_false, not_false_eq_true, Bool.false_eq_true, e]
theorem at_c {w : Int} (h0 : 0 ≤ w) (h1 : w < 18446744073709551616) (K : AV → H → Prop) : C 85 [.int .u64 w] h K = K (.int .i64 (w / 2)) h := by
  refine callA_eq (run85 ?_) K
  have e : IntKind.i64.wrap (w / 2) = w / 2 := i64_id (by omega) (by omega)
  simp only [sh85, go_sem, reduceIte, Nat.reduceAdd, Nat.reduceSub, Nat.reduceMul, Nat.reducePow, Nat.reduceLT, Nat.reduceLeDiff, Nat.reduceEqDiff, Int.reduceAdd, Int.reduceSub, Int.reduceMul, Int.reduceNeg, Int.reducePow, Int.reduceLT, Int.reduceLE, Int.reduceEq, Int.reduceNe, Int.reduceToNat, Int.toNat_natCast, Nat.zero_add, Nat.add_zero, Nat.mul_one, Nat.one_mul, Bool.not_true, Bool.not_false, ne_eq, not_true_eq_false, not_false_eq_true, Bool.false_eq_true, e]
theorem head_c (s n : Int) (K : AV → H → Prop) : C 31 [.int .i64 s, .int .i64 n] h K = K (.int .u64 (headN s n)) h := by
  refine callA_eq (run31 ?_) K
  simp only [sh31, go_sem, reduceIte, Nat.reduceAdd, Nat.reduceSub, Nat.reduceMul, Nat.reducePow, Nat.reduceLT, Nat.reduceLeDiff, Nat.reduceEqDiff, Int.reduceAdd, Int.reduceSub, Int.reduceMul, Int.reduceNeg, Int.reducePow, Int.reduceLT, Int.reduceLE, Int.reduceEq, Int.reduceNe, Int.reduceToNat, Int.toNat_natCast, Nat.zero_add, Nat.add_zero, Nat.mul_one, Nat.one_mul, Bool.not_true, Bool.not_false, ne_eq, not_true_eq_false, not_false_eq_true, Bool.false_eq_true, headN_bits]
theorem shape_c {w : Int} (h0 : 0 ≤ w) (h1 : w < 18446744073709551616) (K : AV → H → Prop) : C 33 [.int .u64 w] h K = K (.int .i64 (w / 2 % 1048576)) h := by
  refine callA_eq (run33 ?_) K
  have e : IntKind.i64.wrap (w / 2 % 1048576) = w / 2 % 1048576 := i64_id (by omega) (by omega)
  simp only [sh33, go_sem, reduceIte, Nat.reduceAdd, Nat.reduceSub, Nat.reduceMul, Nat.reducePow, Nat.reduceLT, Nat.reduceLeDiff, Nat.reduceEqDiff, Int.reduceAdd, Int.reduceSub, Int.reduceMul, Int.reduceNeg, Int.reducePow, Int.reduceLT, Int.reduceLE, Int.reduceEq, Int.reduceNe, Int.reduceToNat, Int.toNat_natCast, Nat.zero_add, Nat.add_zero, Nat.mul_one, Nat.one_mul, Bool.not_true, Bool.not_false, ne_eq, not_true_eq_false, not_false_eq_true, Bool.false_eq_true, and20 (w / 2) (by omega) (by omega), e]
theorem len_c {w : Int} (h0 : 0 ≤ w) (h1 : w < 18446744073709551616) (K : AV → H → Prop) : C 35 [.int .u64 w] h K = K (.int .i64 (w / 2097152 % 1048576)) h := by
  refine callA_eq (run35 ?_) K
  have e : IntKind.i64.wrap (w / 2097152 % 1048576) = w / 2097152 % 1048576 := i64_id (by omega) (by omega)
  simp only [sh35, go_sem, reduceIte, Nat.reduceAdd, Nat.reduceSub, Nat.reduceMul, Nat.reducePow, Nat.reduceLT, Nat.reduceLeDiff, Nat.reduceEqDiff, Int.reduceAdd, Int.reduceSub, Int.reduceMul, Int.reduceNeg, Int.reducePow, Int.reduceLT, Int.reduceLE, Int.reduceEq, Int.reduceNe, Int.reduceToNat, Int.toNat_natCast, Nat.zero_add, Nat.add_zero, Nat.mul_one, Nat.one_mul, Bool.not_true, Bool.not_false, ne_eq, not_true_eq_false, not_false_eq_true, Bool.false_eq_true, and20 (w / 2097152) (by omega) (by omega), e]
theorem marked_c {w : Int} (h0 : 0 ≤ w) (h1 : w < 18446744073709551616) (K : AV → H → Prop) : C 36 [.int .u64 w] h K = K (.bool (decide (w / 2199023255552 % 2 = 1))) h := by
  refine callA_eq (run36 ?_) K
  simp only [sh36, go_sem, reduceIte, Nat.reduceAdd, Nat.reduceSub, Nat.reduceMul, Nat.reducePow, Nat.reduceLT, Nat.reduceLeDiff, Nat.reduceEqDiff, Int.reduceAdd, Int.reduceSub, Int.reduceMul, Int.reduceNeg, Int.reducePow, Int.reduceLT, Int.reduceLE, Int.reduceEq, Int.reduceNe, Int.reduceToNat, Int.toNat_natCast, Nat.zero_add, Nat.add_zero, Nat.mul_one, Nat.one_mul, Bool.not_true, Bool.not_false, ne_eq, not_true_eq_false, not_false_eq_true, Bool.false_eq_true, and1 (w / 2199023255552) (by omega) (by omega)]
theorem turned_c {w : Int} (h0 : 0 ≤ w) (h1 : w < 18446744073709551616) (K : AV → H → Prop) : C 37 [.int .u64 w] h K = K (.int .i64 (w / 4398046511104 % 1048576)) h := by
  refine callA_eq (run37 ?_) K
  have e : IntKind.i64.wrap (w / 4398046511104 % 1048576) = w / 4398046511104 % 1048576 := i64_id (by omega) (by omega)
  simp only [sh37, go_sem, reduceIte, Nat.reduceAdd, Nat.reduceSub, Nat.reduceMul, Nat.reducePow, Nat.reduceLT, Nat.reduceLeDiff, Nat.reduceEqDiff, Int.reduceAdd, Int.reduceSub, Int.reduceMul, Int.reduceNeg, Int.reducePow, Int.reduceLT, Int.reduceLE, Int.reduceEq, Int.reduceNe, Int.reduceToNat, Int.toNat_natCast, Nat.zero_add, Nat.add_zero, Nat.mul_one, Nat.one_mul, Bool.not_true, Bool.not_false, ne_eq, not_true_eq_false, not_false_eq_true, Bool.false_eq_true, and20 (w / 4398046511104) (by omega) (by omega), e]
theorem mark_c {w : Int} (h0 : 0 ≤ w) (h1 : w < 18446744073709551616) (on : Bool) (K : AV → H → Prop) : C 41 [.int .u64 w, .bool on] h K = K (.int .u64 (withN w 41 1 (if on then 1 else 0))) h := by
  refine callA_eq (run41 ?_) K
  have e : bits .or .u64 (w - w / 2199023255552 % 2 * 2199023255552) 2199023255552 = w - w / 2199023255552 % 2 * 2199023255552 + 2199023255552 := by
    have := lay 41 1 (by decide) (w - w / 2199023255552 % 2 * 2199023255552) 1 (by omega) (by omega) (by decide) (by decide) (by simp only [Int.reducePow]; omega)
    simpa using this
  cases on <;> simp only [sh41, joinA, go_sem, reduceIte, Nat.reduceAdd, Nat.reduceSub, Nat.reduceMul, Nat.reducePow, Nat.reduceLT, Nat.reduceLeDiff, Nat.reduceEqDiff, Int.reduceAdd, Int.reduceSub, Int.reduceMul, Int.reduceNeg, Int.reducePow, Int.reduceLT, Int.reduceLE, Int.reduceEq, Int.reduceNe, Int.reduceToNat, Int.toNat_natCast, Nat.zero_add, Nat.add_zero, Nat.mul_one, Nat.one_mul, Bool.not_true, Bool.not_false, ne_eq, not_true_eq_false, not_false_eq_true, Bool.false_eq_true, clear41 w h0 (by omega), withN, e] <;> simp
theorem turn_c {w : Int} (h0 : 0 ≤ w) (h1 : w < 18446744073709551616) (k : Int) (K : AV → H → Prop) : C 43 [.int .u64 w, .int .i64 k] h K = K (.int .u64 (withN w 42 20 k)) h := by
  refine callA_eq (run43 ?_) K
  have e : bits .or .u64 (w - w / 4398046511104 % 1048576 * 4398046511104) (k % 1048576 * 4398046511104) = w - w / 4398046511104 % 1048576 * 4398046511104 + k % 1048576 * 4398046511104 :=
    lay 42 20 (by decide) (w - w / 4398046511104 % 1048576 * 4398046511104) (k % 1048576) (by omega) (by omega) (by omega) (by simp only [Int.reducePow]; omega) (by simp only [Int.reducePow]; omega)
  have e2 : IntKind.u64.wrap (k % 1048576 * 4398046511104) = k % 1048576 * 4398046511104 := u64_id (by omega) (by omega)
  simp only [sh43, go_sem, reduceIte, Nat.reduceAdd, Nat.reduceSub, Nat.reduceMul, Nat.reducePow, Nat.reduceLT, Nat.reduceLeDiff, Nat.reduceEqDiff, Int.reduceAdd, Int.reduceSub, Int.reduceMul, Int.reduceNeg, Int.reducePow, Int.reduceLT, Int.reduceLE, Int.reduceEq, Int.reduceNe, Int.reduceToNat, Int.toNat_natCast, Nat.zero_add, Nat.add_zero, Nat.mul_one, Nat.one_mul, Bool.not_true, Bool.not_false, ne_eq, not_true_eq_false, not_false_eq_true, Bool.false_eq_true, clear42 w h0 (by omega), withN, and20', e2, e]
theorem div1_c (K : AV → H → Prop) : C 97 [.int .i64 (-7), .int .i64 2] h K = K (.tup [.int .i64 (-4), .bool true]) h := by
  refine callA_eq (run97 ?_) K
  have e1 : Int.tmod (-7) 2 = -1 := by decide
  have e2 : Int.tdiv (-7) 2 = -3 := by decide
  have e3 : IntKind.i64.wrap (-3) = -3 := by decide
  have e4 : IntKind.i64.wrap (-4) = -4 := by decide
  have e5 : W (-4) = -4 := by decide
  simp only [sh97, go_sem, reduceIte, Nat.reduceAdd, Nat.reduceSub, Nat.reduceMul, Nat.reducePow, Nat.reduceLT, Nat.reduceLeDiff, Nat.reduceEqDiff, Int.reduceAdd, Int.reduceSub, Int.reduceMul, Int.reduceNeg, Int.reducePow, Int.reduceLT, Int.reduceLE, Int.reduceEq, Int.reduceNe, Int.reduceToNat, Int.toNat_natCast, Nat.zero_add, Nat.add_zero, Nat.mul_one, Nat.one_mul, Bool.not_true, Bool.not_false, ne_eq, not_true_eq_false, not_false_eq_true, Bool.false_eq_true, joinA, e1, e2, e3, e4, e5, wrap_c]
  simp [e1, e2, e3, e4, e5, wrap_c, whenA, pickA, valA_some, condA_t, binOp, intOp, eqlOp]
theorem div2_c (K : AV → H → Prop) : C 97 [.int .i64 1, .int .i64 0] h K = K (.tup [.int .i64 0, .bool false]) h := by
  refine callA_eq (run97 ?_) K
  simp only [sh97, go_sem, reduceIte, Nat.reduceAdd, Nat.reduceSub, Nat.reduceMul, Nat.reducePow, Nat.reduceLT, Nat.reduceLeDiff, Nat.reduceEqDiff, Int.reduceAdd, Int.reduceSub, Int.reduceMul, Int.reduceNeg, Int.reducePow, Int.reduceLT, Int.reduceLE, Int.reduceEq, Int.reduceNe, Int.reduceToNat, Int.toNat_natCast, Nat.zero_add, Nat.add_zero, Nat.mul_one, Nat.one_mul, Bool.not_true, Bool.not_false, ne_eq, not_true_eq_false, not_false_eq_true, Bool.false_eq_true]
theorem mod1_c (K : AV → H → Prop) : C 98 [.int .i64 (-7), .int .i64 2] h K = K (.tup [.int .i64 1, .bool true]) h := by
  refine callA_eq (run98 ?_) K
  have e1 : Int.tmod (-7) 2 = -1 := by decide
  have e4 : IntKind.i64.wrap 1 = 1 := by decide
  have e5 : W 1 = 1 := by decide
  simp only [sh98, go_sem, reduceIte, Nat.reduceAdd, Nat.reduceSub, Nat.reduceMul, Nat.reducePow, Nat.reduceLT, Nat.reduceLeDiff, Nat.reduceEqDiff, Int.reduceAdd, Int.reduceSub, Int.reduceMul, Int.reduceNeg, Int.reducePow, Int.reduceLT, Int.reduceLE, Int.reduceEq, Int.reduceNe, Int.reduceToNat, Int.toNat_natCast, Nat.zero_add, Nat.add_zero, Nat.mul_one, Nat.one_mul, Bool.not_true, Bool.not_false, ne_eq, not_true_eq_false, not_false_eq_true, Bool.false_eq_true, joinA, e1, e4, e5, wrap_c]
  simp [e1, e4, e5, wrap_c, whenA, pickA, valA_some, condA_t, binOp, intOp, eqlOp]
end
end Go.Proofs.Ytljkkfcokpimkaa.X
