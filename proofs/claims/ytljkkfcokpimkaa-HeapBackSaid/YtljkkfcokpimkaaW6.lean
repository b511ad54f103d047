/- The examples of the document, and the laws of the words that need no bytes. -/
import Derived.Test.YtljkkfcokpimkaaW4
set_option linter.unusedVariables false
set_option linter.unusedSimpArgs false
set_option maxRecDepth 20000
namespace Go.Proofs.Ytljkkfcokpimkaa.X
open Go Go.RowKit

section
variable {h : H}
theorem lives1_c {K : AV → H → Prop} (hK : ∀ h', Fr [] h h' → K (.bool true) h') : C 30 [] h K := by
  refine run30 ?_
  have e1 : fillV [.int .u8 0, .int .u8 0] [(0, 1, .int .u8 128), (1, 1, .int .u8 1)] = some [.int .u8 128, .int .u8 1] := rfl
  simp only [sh30, go_sem, reduceIte, Nat.reduceAdd, Nat.reduceSub, Nat.reduceMul, Nat.reducePow, Nat.reduceLT, Nat.reduceLeDiff, Nat.reduceEqDiff, Int.reduceAdd, Int.reduceSub, Int.reduceMul, Int.reduceNeg, Int.reducePow, Int.reduceLT, Int.reduceLE, Int.reduceEq, Int.reduceNe, Int.reduceToNat, Int.toNat_natCast, Nat.zero_add, Nat.add_zero, Nat.mul_one, Nat.one_mul, Bool.not_true, Bool.not_false, ne_eq, not_true_eq_false, not_false_eq_true, Bool.false_eq_true, div1_c, mod1_c, div2_c, e1, mkslA_s]
  refine ⟨rfl, fun b hb => ?_⟩
  have hr : Row (h.set b (.live [.int .u8 128, .int .u8 1] 5 true)) (.sl b 0 2 (.exact 2)) [128, 1].length 1 (bc [128, 1]) := ⟨rfl, .inr ⟨b, 0, _, rfl, rfl, H.read_eq (H.get_same ..) (by decide) rfl⟩⟩
  have hd : decS [128, 1] 0 = (64, 2, true) := by
    have e : putL 128 = [128, 1] := by rw [putL, if_neg (by decide), putL, if_pos (by decide)]
    simp [decS, cut, val, e, unz]
  refine get_c hr (by decide) (by decide) (by decide) (by decide) ?_
  rw [hd]
  have e2 : ∀ (h : H) K, C 83 [.int .i64 5] h K = K (.int .u64 11) h := fun h K => by rw [imm_c]; rfl
  have e3 : ∀ (h : H) K, C 99 [.int .u64 11] h K = K (.int .i64 5) h := fun h K => by rw [int_c, show wrap64 11 / 2 = 5 by unfold wrap64; decide]
  have e4 : W 4611686018427387904 = -4611686018427387904 := by decide
  have e5 : headN 3 7 = 14680071 := by decide
  have e6 : (14680071 / 2097152 % 1048576 : Int) = 7 := by decide
  simp only [decV, go_sem, reduceIte, Nat.reduceAdd, Nat.reduceSub, Nat.reduceMul, Nat.reducePow, Nat.reduceLT, Nat.reduceLeDiff, Nat.reduceEqDiff, Int.reduceAdd, Int.reduceSub, Int.reduceMul, Int.reduceNeg, Int.reducePow, Int.reduceLT, Int.reduceLE, Int.reduceEq, Int.reduceNe, Int.reduceToNat, Int.toNat_natCast, Nat.zero_add, Nat.add_zero, Nat.mul_one, Nat.one_mul, Bool.not_true, Bool.not_false, ne_eq, not_true_eq_false, not_false_eq_true, Bool.false_eq_true, wrap_c, head_c, e2, e3, e4, e5, len_c (w := 14680071) (by decide) (by decide), e6]
  exact hK _ (Fr.new hb)
theorem lives_c {K : AV → H → Prop} (hK : ∀ h', Fr [] h h' → K (.bool true) h') : C 30 [] h K := lives1_c hK
/-- The examples, where nothing behind them is asked. -/
theorem lives_yes {c : Bool} (hc : c = true) : whenA (.bool c) true (fun K => C 30 [] h K) h (fun t h => valA (pickA (.bool c) t (.bool false)) h yes) := by
  subst hc
  show C 30 [] h _
  exact lives_c fun h' _ => by simp only [pickA_b, if_true, valA_some, yes]
theorem wordProducts_c {a b : Int} (ha0 : -9223372036854775808 ≤ a) (ha1 : a < 9223372036854775808) (hb0 : -9223372036854775808 ≤ b) (hb1 : b < 9223372036854775808) : C 3 [.int .i64 a, .int .i64 b] h yes := by
  refine run3 ?_
  simp only [sh3, go_sem, reduceIte, Nat.reduceAdd, Nat.reduceSub, Nat.reduceMul, Nat.reducePow, Nat.reduceLT, Nat.reduceLeDiff, Nat.reduceEqDiff, Int.reduceAdd, Int.reduceSub, Int.reduceMul, Int.reduceNeg, Int.reducePow, Int.reduceLT, Int.reduceLE, Int.reduceEq, Int.reduceNe, Int.reduceToNat, Int.toNat_natCast, Nat.zero_add, Nat.add_zero, Nat.mul_one, Nat.one_mul, Bool.not_true, Bool.not_false, ne_eq, not_true_eq_false, not_false_eq_true, Bool.false_eq_true, mul_c, product_c ha0 ha1 hb0 hb1]
  exact lives_c fun h' _ => rfl
theorem wordRing_c (a b c : Int) : C 5 [.int .i64 a, .int .i64 b, .int .i64 c] h yes := by
  refine run5 ?_
  have e1 : b + a = a + b := Int.add_comm _ _
  have e2 : b * a = a * b := Int.mul_comm _ _
  have e3 : W (a + W (b + c)) = W (W (a + b) + c) := by rw [W_add, W_add', Int.add_assoc]
  have e4 : W (a * W (b * c)) = W (W (a * b) * c) := by rw [W_mul, W_mul', Int.mul_assoc]
  have e5 : W (W (a * b) + W (a * c)) = W (a * W (b + c)) := by rw [W_add, W_add', W_mul', Int.mul_add]
  have e6 : W (W (a + b) - b) = W a := by rw [W_sub]; congr 1; omega
  simp only [sh5, go_sem, reduceIte, Nat.reduceAdd, Nat.reduceSub, Nat.reduceMul, Nat.reducePow, Nat.reduceLT, Nat.reduceLeDiff, Nat.reduceEqDiff, Int.reduceAdd, Int.reduceSub, Int.reduceMul, Int.reduceNeg, Int.reducePow, Int.reduceLT, Int.reduceLE, Int.reduceEq, Int.reduceNe, Int.reduceToNat, Int.toNat_natCast, Nat.zero_add, Nat.add_zero, Nat.mul_one, Nat.one_mul, Bool.not_true, Bool.not_false, ne_eq, not_true_eq_false, not_false_eq_true, Bool.false_eq_true, mul_c, add_c, sub_c, wrap_c, e1, e2, e3, e4, e5, e6]
  exact lives_c fun h' _ => rfl
theorem wordHeads_c (s n : Int) {w : Int} (h0 : 0 ≤ w) (h1 : w < 18446744073709551616) : C 4 [.int .i64 s, .int .i64 n, .int .u64 w] h yes := by
  refine run4 ?_
  have e1 : IntKind.i64.wrap (w / 2 % 1048576) = w / 2 % 1048576 := i64_id (by omega) (by omega)
  have e2 : IntKind.i64.wrap (w / 2097152 % 1048576) = w / 2097152 % 1048576 := i64_id (by omega) (by omega)
  have e3 : IntKind.i64.wrap (w / 4398046511104 % 1048576) = w / 4398046511104 % 1048576 := i64_id (by omega) (by omega)
  simp only [sh4, go_sem, reduceIte, Nat.reduceAdd, Nat.reduceSub, Nat.reduceMul, Nat.reducePow, Nat.reduceLT, Nat.reduceLeDiff, Nat.reduceEqDiff, Int.reduceAdd, Int.reduceSub, Int.reduceMul, Int.reduceNeg, Int.reducePow, Int.reduceLT, Int.reduceLE, Int.reduceEq, Int.reduceNe, Int.reduceToNat, Int.toNat_natCast, Nat.zero_add, Nat.add_zero, Nat.mul_one, Nat.one_mul, Bool.not_true, Bool.not_false, ne_eq, not_true_eq_false, not_false_eq_true, Bool.false_eq_true, head_c, rhead_c, shape_c h0 h1, len_c h0 h1, marked_c h0 h1, turned_c h0 h1, field_c h0 h1, e1, e2, e3]
  exact lives_c fun h' _ => rfl
theorem wordMarks_c {w : Int} (h0 : 0 ≤ w) (h1 : w < 18446744073709551616) (on : Bool) (k : Int) : C 6 [.int .u64 w, .bool on, .int .i64 k] h yes := by
  refine run6 ?_
  have w1 : ∀ (x : Int) (h : H) (K : AV → H → Prop), 0 ≤ x → C 42 [.int .u64 w, .int .i64 41, .int .i64 1, .int .u64 x] h K = K (.int .u64 (withN w 41 1 x)) h := fun x h K hx => with_c (h := h) (w := w) (x := x) (p := 41) (l := 1) h0 h1 hx (by decide) K
  have w2 := with_c (h := h) (w := w) (x := IntKind.u64.wrap k) (p := 42) (l := 20) h0 h1 (by rw [u64_wrap]; omega) (by decide)
  have e : withN w 42 20 (IntKind.u64.wrap k) = withN w 42 20 k := by unfold withN; rw [u64_wrap]; simp only [Int.reducePow]; omega
  simp only [Int.cast_ofNat_Int] at w2
  cases on
  · simp only [sh6, joinA, go_sem, reduceIte, Nat.reduceAdd, Nat.reduceSub, Nat.reduceMul, Nat.reducePow, Nat.reduceLT, Nat.reduceLeDiff, Nat.reduceEqDiff, Int.reduceAdd, Int.reduceSub, Int.reduceMul, Int.reduceNeg, Int.reducePow, Int.reduceLT, Int.reduceLE, Int.reduceEq, Int.reduceNe, Int.reduceToNat, Int.toNat_natCast, Nat.zero_add, Nat.add_zero, Nat.mul_one, Nat.one_mul, Bool.not_true, Bool.not_false, ne_eq, not_true_eq_false, not_false_eq_true, Bool.false_eq_true, mark_c h0 h1, turn_c h0 h1, w1 0 _ _ (by decide), w2, e]
    exact lives_c fun h' _ => rfl
  · simp only [sh6, joinA, go_sem, reduceIte, Nat.reduceAdd, Nat.reduceSub, Nat.reduceMul, Nat.reducePow, Nat.reduceLT, Nat.reduceLeDiff, Nat.reduceEqDiff, Int.reduceAdd, Int.reduceSub, Int.reduceMul, Int.reduceNeg, Int.reducePow, Int.reduceLT, Int.reduceLE, Int.reduceEq, Int.reduceNe, Int.reduceToNat, Int.toNat_natCast, Nat.zero_add, Nat.add_zero, Nat.mul_one, Nat.one_mul, Bool.not_true, Bool.not_false, ne_eq, not_true_eq_false, not_false_eq_true, Bool.false_eq_true, mark_c h0 h1, turn_c h0 h1, w1 1 _ _ (by decide), w2, e]
    exact lives_c fun h' _ => rfl
end
end Go.Proofs.Ytljkkfcokpimkaa.X
