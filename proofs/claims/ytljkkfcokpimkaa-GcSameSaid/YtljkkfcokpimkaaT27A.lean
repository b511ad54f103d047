/- What the law law27 needs: texts of one's own, put together; functions' contracts and plain facts. -/
import Derived.Test.YtljkkfcokpimkaaT27Ft
import Derived.Test.YtljkkfcokpimkaaXp
import Derived.RowKit
import Derived.Laws.BitsLemmas
import Derived.Test.YtljkkfcokpimkaaXq
import Derived.Test.YtljkkfcokpimkaaXr
import Derived.Test.YtljkkfcokpimkaaXa
namespace Go.Proofs.Ytljkkfcokpimkaa.X
open Go Go.RowKit
def W (n : Int) : Int := (n + 4611686018427387904) % 9223372036854775808 - 4611686018427387904
theorem u64_wrap (n : Int) : IntKind.u64.wrap n = n % 18446744073709551616 := by simp [IntKind.wrap, IntKind.bits, IntKind.signed]
theorem i64_wf {a : Int} (h : (Lit.int .i64 a).wf = true) : -9223372036854775808 ≤ a ∧ a ≤ 9223372036854775807 := by
  simpa [Lit.wf, IntKind.min, IntKind.max, IntKind.signed, IntKind.bits] using h
theorem u64_wf {a : Int} (h : (Lit.int .u64 a).wf = true) : 0 ≤ a ∧ a ≤ 18446744073709551615 := by
  simpa [Lit.wf, IntKind.min, IntKind.max, IntKind.signed, IntKind.bits] using h
/-! ### bits -/
theorem wraps_u64 (n : Int) (h₀ : 0 ≤ n) (h₁ : n < 2 ^ 64) : IntKind.u64.wrap n = n := by rw [u64_wrap]; omega
theorem and_low (x : Int) (i : Nat) (hi : i ≤ 64) (h₀ : 0 ≤ x) (h₁ : x ≤ 18446744073709551615) : bits .and .u64 x (2 ^ i - 1) = x % 2 ^ i :=
  bits_mask .u64 64 (by decide) wraps_u64 i hi x h₀ (by omega)
theorem and1 (x : Int) (h₀ : 0 ≤ x) (h₁ : x ≤ 18446744073709551615) : bits .and .u64 x 1 = x % 2 := and_low x 1 (by decide) h₀ h₁
theorem and20 (x : Int) (h₀ : 0 ≤ x) (h₁ : x ≤ 18446744073709551615) : bits .and .u64 x 1048575 = x % 1048576 := and_low x 20 (by decide) h₀ h₁
theorem or_comm (x y : Int) : bits .or .u64 x y = bits .or .u64 y x := by
  show IntKind.u64.wrap ((BitVec.ofInt _ x ||| BitVec.ofInt _ y).toNat : Int) = IntKind.u64.wrap ((BitVec.ofInt _ y ||| BitVec.ofInt _ x).toNat : Int)
  rw [BitVec.or_comm]
theorem or_join (i : Nat) (x y : Int) (hx₀ : 0 ≤ x) (hx : x % 2 ^ i = 0) (hx₁ : x ≤ 18446744073709551615) (hy₀ : 0 ≤ y) (hy : y < 2 ^ i) (hy₁ : y ≤ 18446744073709551615) : bits .or .u64 x y = x + y :=
  bits_join .u64 64 (by decide) wraps_u64 i x y hx₀ hx (by omega) hy₀ hy (by omega)
theorem andNot_nat (a p l : Nat) (hl : p + l ≤ 64) (ha : a < 2 ^ 64) :
    bits .andNot .u64 (a : Int) (((2 ^ l - 1) * 2 ^ p : Nat) : Int) = ((a - a / 2 ^ p % 2 ^ l * 2 ^ p : Nat) : Int) := by
  have hb : ((2 ^ l - 1) * 2 ^ p : Nat) < 2 ^ 64 := by
    have : 2 ^ p * 2 ^ l ≤ 2 ^ 64 := by rw [← Nat.pow_add]; exact Nat.pow_le_pow_right (by decide) hl
    have h2 : 0 < 2 ^ l := Nat.two_pow_pos l
    have h3 : 0 < 2 ^ p := Nat.two_pow_pos p
    rw [Nat.sub_mul, Nat.mul_comm (2 ^ l)]
    have : 1 * 2 ^ p = 2 ^ p := Nat.one_mul _
    omega
  have hs : a / 2 ^ p % 2 ^ l * 2 ^ p ≤ a := Nat.le_trans (Nat.mul_le_mul_right _ (Nat.mod_le _ _)) (Nat.div_mul_le_self _ _)
  have key : (BitVec.ofNat 64 a &&& ~~~ BitVec.ofNat 64 ((2 ^ l - 1) * 2 ^ p)) = BitVec.ofNat 64 (a - a / 2 ^ p % 2 ^ l * 2 ^ p) := by
    have hc : a - a / 2 ^ p % 2 ^ l * 2 ^ p = 2 ^ p * (2 ^ l * (a / 2 ^ p / 2 ^ l)) + a % 2 ^ p := by
      have h1 := Nat.div_add_mod a (2 ^ p)
      have h2 := Nat.div_add_mod (a / 2 ^ p) (2 ^ l)
      have h3 : 2 ^ p * (a / 2 ^ p) = 2 ^ p * (2 ^ l * (a / 2 ^ p / 2 ^ l)) + 2 ^ p * (a / 2 ^ p % 2 ^ l) := by
        rw [← Nat.mul_add, h2]
      rw [Nat.mul_comm (a / 2 ^ p % 2 ^ l)]
      omega
    apply BitVec.eq_of_getLsbD_eq
    intro i hi
    simp only [BitVec.getLsbD_and, BitVec.getLsbD_not, BitVec.getLsbD_ofNat, hi, decide_true, Bool.true_and]
    rw [hc, Nat.testBit_two_pow_mul_add _ (Nat.mod_lt _ (Nat.two_pow_pos p)), Nat.mul_comm (2 ^ l - 1), Nat.testBit_two_pow_mul]
    by_cases hp : i < p
    · have h1 : ¬ p ≤ i := by omega
      simp [hp, h1, Nat.testBit_mod_two_pow]
    · have h1 : p ≤ i := by omega
      rw [if_neg hp, Nat.testBit_two_pow_mul, Nat.testBit_two_pow_sub_one, Nat.testBit_div_two_pow, Nat.testBit_div_two_pow]
      simp only [h1, decide_true, Bool.true_and]
      by_cases hq : i - p < l
      · simp [hq]
        omega
      · have h2 : l ≤ i - p := by omega
        simp only [hq, h2, decide_true, decide_false, Bool.not_false, Bool.and_true, Bool.true_and]
        congr 1
        omega
  have hw : ∀ n : Nat, n < 2 ^ 64 → IntKind.u64.wrap (n : Int) = n := fun n h => wraps_u64 _ (Int.natCast_nonneg _) (by exact_mod_cast h)
  show IntKind.u64.wrap ((BitVec.ofInt 64 (a : Int) &&& ~~~ BitVec.ofInt 64 (((2 ^ l - 1) * 2 ^ p : Nat) : Int)).toNat : Int) = _
  rw [BitVec.ofInt_natCast, BitVec.ofInt_natCast, key, BitVec.toNat_ofNat, Nat.mod_eq_of_lt (by omega), hw _ (by omega)]
theorem clear41 (a : Int) (h₀ : 0 ≤ a) (h₁ : a ≤ 18446744073709551615) : bits .andNot .u64 a 2199023255552 = a - a / 2199023255552 % 2 * 2199023255552 := by
  obtain ⟨n, rfl⟩ := Int.eq_ofNat_of_zero_le h₀
  have h := andNot_nat n 41 1 (by decide) (by omega)
  have e : (((2 ^ 1 - 1) * 2 ^ 41 : Nat) : Int) = 2199023255552 := by decide
  rw [e] at h
  rw [h]
  omega
theorem clear42 (a : Int) (h₀ : 0 ≤ a) (h₁ : a ≤ 18446744073709551615) : bits .andNot .u64 a 4611681620380876800 = a - a / 4398046511104 % 1048576 * 4398046511104 := by
  obtain ⟨n, rfl⟩ := Int.eq_ofNat_of_zero_le h₀
  have h := andNot_nat n 42 20 (by decide) (by omega)
  have e : (((2 ^ 20 - 1) * 2 ^ 42 : Nat) : Int) = 4611681620380876800 := by decide
  rw [e] at h
  rw [h]
  omega
theorem or_nat (a v p l : Nat) (hl : p + l ≤ 64) (ha : a < 2 ^ 64) (hv : v < 2 ^ l) (h : a / 2 ^ p % 2 ^ l = 0) :
    bits .or .u64 (a : Int) ((v * 2 ^ p : Nat) : Int) = ((a + v * 2 ^ p : Nat) : Int) := by
  have hb : v * 2 ^ p < 2 ^ 64 := by
    have h1 : 2 ^ l * 2 ^ p ≤ 2 ^ 64 := by rw [← Nat.pow_add]; exact Nat.pow_le_pow_right (by decide) (by omega)
    have h2 : v * 2 ^ p < 2 ^ l * 2 ^ p := Nat.mul_lt_mul_of_pos_right hv (Nat.two_pow_pos p)
    omega
  rw [(bits_nat .u64 64 (by decide) wraps_u64 a (v * 2 ^ p) ha hb).2]
  congr 1
  have h1 := Nat.div_add_mod a (2 ^ p)
  have h2 := Nat.div_add_mod (a / 2 ^ p) (2 ^ l)
  have hq : a / 2 ^ p = 2 ^ l * (a / 2 ^ p / 2 ^ l) := by omega
  have hc : a = 2 ^ p * (2 ^ l * (a / 2 ^ p / 2 ^ l)) + a % 2 ^ p := by rw [← hq]; omega
  have hs : a + v * 2 ^ p = 2 ^ p * (2 ^ l * (a / 2 ^ p / 2 ^ l) + v) + a % 2 ^ p := by
    rw [Nat.mul_add, Nat.mul_comm v]
    omega
  apply Nat.eq_of_testBit_eq
  intro i
  rw [hs, Nat.testBit_or, Nat.testBit_two_pow_mul_add _ (Nat.mod_lt _ (Nat.two_pow_pos p)), Nat.mul_comm v, Nat.testBit_two_pow_mul]
  by_cases hp : i < p
  · have h3 : ¬ p ≤ i := by omega
    simp [hp, h3, Nat.testBit_mod_two_pow]
  · have h3 : p ≤ i := by omega
    rw [if_neg hp, Nat.testBit_two_pow_mul_add _ hv]
    simp only [h3, decide_true, Bool.true_and]
    have e1 : a.testBit i = (a / 2 ^ p).testBit (i - p) := by rw [Nat.testBit_div_two_pow]; congr 1; omega
    rw [e1, hq, Nat.testBit_two_pow_mul]
    by_cases hl2 : i - p < l
    · have h4 : ¬ l ≤ i - p := by omega
      simp [hl2, h4]
    · have h4 : l ≤ i - p := by omega
      rw [if_neg hl2]
      have h5 : v.testBit (i - p) = false := Nat.testBit_lt_two_pow (Nat.lt_of_lt_of_le hv (Nat.pow_le_pow_right (by decide) h4))
      simp [h4, h5, Nat.mul_div_cancel_left _ (Nat.two_pow_pos l)]
theorem lay (p l : Nat) (hl : p + l ≤ 64) (a v : Int) (h₀ : 0 ≤ a) (h₁ : a ≤ 18446744073709551615) (hv₀ : 0 ≤ v) (hv : v < 2 ^ l) (h : a / 2 ^ p % 2 ^ l = 0) :
    bits .or .u64 a (v * 2 ^ p) = a + v * 2 ^ p := by
  obtain ⟨n, rfl⟩ := Int.eq_ofNat_of_zero_le h₀
  obtain ⟨m, rfl⟩ := Int.eq_ofNat_of_zero_le hv₀
  have := or_nat n m p l hl (by omega) (by exact_mod_cast hv) (by exact_mod_cast h)
  simpa using this
end Go.Proofs.Ytljkkfcokpimkaa.X
set_option linter.unusedVariables false
set_option linter.unusedSimpArgs false
set_option maxRecDepth 20000
namespace Go.Proofs.Ytljkkfcokpimkaa.X
open Go Go.RowKit
theorem i64_wrap (n : Int) : IntKind.i64.wrap n = wrap64 n := by simp only [IntKind.wrap, wrap64, IntKind.bits, IntKind.signed]; simp; omega
theorem i64_id {n : Int} (h0 : -9223372036854775808 ≤ n) (h1 : n < 9223372036854775808) : IntKind.i64.wrap n = n := by rw [i64_wrap]; unfold wrap64; omega
theorem u64_id {n : Int} (h0 : 0 ≤ n) (h1 : n < 18446744073709551616) : IntKind.u64.wrap n = n := by rw [u64_wrap]; omega
def headN (s n : Int) : Int := s % 1048576 * 2 + n % 1048576 * 2097152 + 1
theorem headN_lo (s n : Int) : 0 ≤ headN s n := by unfold headN; omega
theorem headN_hi (s n : Int) : headN s n < 18446744073709551616 := by unfold headN; omega
def withN (h : Int) (p l : Nat) (x : Int) : Int := h - h / 2 ^ p % 2 ^ l * 2 ^ p + x % 2 ^ l * 2 ^ p
theorem and20' (x : Int) : bits .and .u64 (IntKind.u64.wrap x) 1048575 = x % 1048576 := by
  rw [u64_wrap, and20 _ (by omega) (by omega)]; omega
theorem headN_bits (s n : Int) : bits .or .u64 (bits .or .u64 (IntKind.u64.wrap (bits .and .u64 (IntKind.u64.wrap s) 1048575 * 2)) (IntKind.u64.wrap (bits .and .u64 (IntKind.u64.wrap n) 1048575 * 2097152))) 1 = headN s n := by
  rw [and20', and20', u64_id (n := s % 1048576 * 2) (by omega) (by omega), u64_id (n := n % 1048576 * 2097152) (by omega) (by omega), or_comm (s % 1048576 * 2),
    or_join 21 (n % 1048576 * 2097152) (s % 1048576 * 2) (by omega) (by simp only [Int.reducePow]; omega) (by omega) (by omega) (by simp only [Int.reducePow]; omega) (by omega), or_join 1 (n % 1048576 * 2097152 + s % 1048576 * 2) 1 (by omega) (by simp only [Int.reducePow]; omega) (by omega) (by omega) (by simp only [Int.reducePow]; omega) (by omega)]
  unfold headN; omega
section
variable {h : H}
theorem imm_c (n : Int) (K : AV → H → Prop) : C 83 [.int .i64 n] h K = K (.int .u64 (n * 2 % 18446744073709551616 + 1)) h := by
  refine callA_eq (run83 ?_) K
  have e : bits .or .u64 (IntKind.u64.wrap (IntKind.u64.wrap n * 2)) 1 = n * 2 % 18446744073709551616 + 1 := by
    rw [u64_wrap, u64_wrap, or_join 1 _ _ (by omega) (by simp only [Int.reducePow]; omega) (by omega) (by omega) (by simp only [Int.reducePow]; omega) (by omega)]
    omega
  simp only [sh83, go_sem, reduceIte, Nat.reduceAdd, Nat.reduceSub, Nat.reduceMul, Nat.reducePow, Nat.reduceLT, Nat.reduceLeDiff, Nat.reduceEqDiff, Int.reduceAdd, Int.reduceSub, Int.reduceMul, Int.reduceNeg, Int.reducePow, Int.reduceLT, Int.reduceLE, Int.reduceEq, Int.reduceNe, Int.reduceToNat, Int.toNat_natCast, Nat.zero_add, Nat.add_zero, Nat.mul_one, Nat.one_mul, Bool.not_true, Bool.not_false, ne_eq, not_true_eq_false, not_false_eq_true, Bool.false_eq_true, e]
theorem isImm_c {w : Int} (h0 : 0 ≤ w) (h1 : w < 18446744073709551616) (K : AV → H → Prop) : C 48 [.int .u64 w] h K = K (.bool (decide (w % 2 = 1))) h := by
  refine callA_eq (run48 ?_) K
  simp only [sh48, go_sem, reduceIte, Nat.reduceAdd, Nat.reduceSub, Nat.reduceMul, Nat.reducePow, Nat.reduceLT, Nat.reduceLeDiff, Nat.reduceEqDiff, Int.reduceAdd, Int.reduceSub, Int.reduceMul, Int.reduceNeg, Int.reducePow, Int.reduceLT, Int.reduceLE, Int.reduceEq, Int.reduceNe, Int.reduceToNat, Int.toNat_natCast, Nat.zero_add, Nat.add_zero, Nat.mul_one, Nat.one_mul, Bool.not_true, Bool.not_false, ne_eq, not_true_eq_false, not_false_eq_true, Bool.false_eq_true, and1 w h0 (by omega)]
theorem ptr_c (n : Int) (K : AV → H → Prop) : C 82 [.int .i64 n] h K = K (.int .u64 (n * 2 % 18446744073709551616)) h := by
  refine callA_eq (run82 ?_) K
  have e : bits .or .u64 (IntKind.u64.wrap (IntKind.u64.wrap n * 2)) 0 = n * 2 % 18446744073709551616 := by
    rw [u64_wrap, u64_wrap, or_join 1 _ _ (by omega) (by simp only [Int.reducePow]; omega) (by omega) (by omega) (by simp only [Int.reducePow]; omega) (by omega)]
    omega
  simp only [sh82, go_sem, reduceIte, Nat.reduceAdd, Nat.reduceSub, Nat.reduceMul, Nat.reducePow, Nat.reduceLT, Nat.reduceLeDiff, Nat.reduceEqDiff, Int.reduceAdd, Int.reduceSub, Int.reduceMul, Int.reduceNeg, Int.reducePow, Int.reduceLT, Int.reduceLE, Int.reduceEq, Int.reduceNe, Int.reduceToNat, Int.toNat_natCast, Nat.zero_add, Nat.add_zero, Nat.mul_one, Nat.one_mul, Bool.not_true, Bool.not_false, ne_eq, not_true_eq_false, not_false_eq_true, Bool.false_eq_true, e]
theorem at_c {w : Int} (h0 : 0 ≤ w) (h1 : w < 18446744073709551616) (K : AV → H → Prop) : C 85 [.int .u64 w] h K = K (.int .i64 (w / 2)) h := by
  refine callA_eq (run85 ?_) K
  have e : IntKind.i64.wrap (w / 2) = w / 2 := i64_id (by omega) (by omega)
  simp only [sh85, go_sem, reduceIte, Nat.reduceAdd, Nat.reduceSub, Nat.reduceMul, Nat.reducePow, Nat.reduceLT, Nat.reduceLeDiff, Nat.reduceEqDiff, Int.reduceAdd, Int.reduceSub, Int.reduceMul, Int.reduceNeg, Int.reducePow, Int.reduceLT, Int.reduceLE, Int.reduceEq, Int.reduceNe, Int.reduceToNat, Int.toNat_natCast, Nat.zero_add, Nat.add_zero, Nat.mul_one, Nat.one_mul, Bool.not_true, Bool.not_false, ne_eq, not_true_eq_false, not_false_eq_true, Bool.false_eq_true, e]
theorem head_c (s n : Int) (K : AV → H → Prop) : C 31 [.int .i64 s, .int .i64 n] h K = K (.int .u64 (headN s n)) h := by
  refine callA_eq (run31 ?_) K
  simp only [sh31, go_sem, reduceIte, Nat.reduceAdd, Nat.reduceSub, Nat.reduceMul, Nat.reducePow, Nat.reduceLT, Nat.reduceLeDiff, Nat.reduceEqDiff, Int.reduceAdd, Int.reduceSub, Int.reduceMul, Int.reduceNeg, Int.reducePow, Int.reduceLT, Int.reduceLE, Int.reduceEq, Int.reduceNe, Int.reduceToNat, Int.toNat_natCast, Nat.zero_add, Nat.add_zero, Nat.mul_one, Nat.one_mul, Bool.not_true, Bool.not_false, ne_eq, not_true_eq_false, not_false_eq_true, Bool.false_eq_true, headN_bits]
theorem shape_c {w : Int} (h0 : 0 ≤ w) (h1 : w < 18446744073709551616) (K : AV → H → Prop) : C 33 [.int .u64 w] h K = K (.int .i64 (w / 2 % 1048576)) h := by
  refine callA_eq (run33 ?_) K
  have e : IntKind.i64.wrap (w / 2 % 1048576) = w / 2 % 1048576 := i64_id (by omega) (by omega)
  simp only [sh33, go_sem, reduceIte, Nat.reduceAdd, Nat.reduceSub, Nat.reduceMul, Nat.reducePow, Nat.reduceLT, Nat.reduceLeDiff, Nat.reduceEqDiff, Int.reduceAdd, Int.reduceSub, Int.reduceMul, Int.reduceNeg, Int.reducePow, Int.reduceLT, Int.reduceLE, Int.reduceEq, Int.reduceNe, Int.reduceToNat, Int.toNat_natCast, Nat.zero_add, Nat.add_zero, Nat.mul_one, Nat.one_mul, Bool.not_true, Bool.not_false, ne_eq, not_true_eq_false, not_false_eq_true, Bool.false_eq_true, and20 (w / 2) (by omega) (by omega), e]
theorem len_c {w : Int} (h0 : 0 ≤ w) (h1 : w < 18446744073709551616) (K : AV → H → Prop) : C 35 [.int .u64 w] h K = K (.int .i64 (w / 2097152 % 1048576)) h := by
  refine callA_eq (run35 ?_) K
  have e : IntKind.i64.wrap (w / 2097152 % 1048576) = w / 2097152 % 1048576 := i64_id (by omega) (by omega)
  simp only [sh35, go_sem, reduceIte, Nat.reduceAdd, Nat.reduceSub, Nat.reduceMul, Nat.reducePow, Nat.reduceLT, Nat.reduceLeDiff, Nat.reduceEqDiff, Int.reduceAdd, Int.reduceSub, Int.reduceMul, Int.reduceNeg, Int.reducePow, Int.reduceLT, Int.reduceLE, Int.reduceEq, Int.reduceNe, Int.reduceToNat, Int.toNat_natCast, Nat.zero_add, Nat.add_zero, Nat.mul_one, Nat.one_mul, Bool.not_true, Bool.not_false, ne_eq, not_true_eq_false, not_false_eq_true, Bool.false_eq_true, and20 (w / 2097152) (by omega) (by omega), e]
theorem marked_c {w : Int} (h0 : 0 ≤ w) (h1 : w < 18446744073709551616) (K : AV → H → Prop) : C 36 [.int .u64 w] h K = K (.bool (decide (w / 2199023255552 % 2 = 1))) h := by
  refine callA_eq (run36 ?_) K
  simp only [sh36, go_sem, reduceIte, Nat.reduceAdd, Nat.reduceSub, Nat.reduceMul, Nat.reducePow, Nat.reduceLT, Nat.reduceLeDiff, Nat.reduceEqDiff, Int.reduceAdd, Int.reduceSub, Int.reduceMul, Int.reduceNeg, Int.reducePow, Int.reduceLT, Int.reduceLE, Int.reduceEq, Int.reduceNe, Int.reduceToNat, Int.toNat_natCast, Nat.zero_add, Nat.add_zero, Nat.mul_one, Nat.one_mul, Bool.not_true, Bool.not_false, ne_eq, not_true_eq_false, not_false_eq_true, Bool.false_eq_true, and1 (w / 2199023255552) (by omega) (by omega)]
theorem turned_c {w : Int} (h0 : 0 ≤ w) (h1 : w < 18446744073709551616) (K : AV → H → Prop) : C 37 [.int .u64 w] h K = K (.int .i64 (w / 4398046511104 % 1048576)) h := by
  refine callA_eq (run37 ?_) K
  have e : IntKind.i64.wrap (w / 4398046511104 % 1048576) = w / 4398046511104 % 1048576 := i64_id (by omega) (by omega)
  simp only [sh37, go_sem, reduceIte, Nat.reduceAdd, Nat.reduceSub, Nat.reduceMul, Nat.reducePow, Nat.reduceLT, Nat.reduceLeDiff, Nat.reduceEqDiff, Int.reduceAdd, Int.reduceSub, Int.reduceMul, Int.reduceNeg, Int.reducePow, Int.reduceLT, Int.reduceLE, Int.reduceEq, Int.reduceNe, Int.reduceToNat, Int.toNat_natCast, Nat.zero_add, Nat.add_zero, Nat.mul_one, Nat.one_mul, Bool.not_true, Bool.not_false, ne_eq, not_true_eq_false, not_false_eq_true, Bool.false_eq_true, and20 (w / 4398046511104) (by omega) (by omega), e]
theorem mark_c {w : Int} (h0 : 0 ≤ w) (h1 : w < 18446744073709551616) (on : Bool) (K : AV → H → Prop) : C 41 [.int .u64 w, .bool on] h K = K (.int .u64 (withN w 41 1 (if on then 1 else 0))) h := by
  refine callA_eq (run41 ?_) K
  have e : bits .or .u64 (w - w / 2199023255552 % 2 * 2199023255552) 2199023255552 = w - w / 2199023255552 % 2 * 2199023255552 + 2199023255552 := by
    have := lay 41 1 (by decide) (w - w / 2199023255552 % 2 * 2199023255552) 1 (by omega) (by omega) (by decide) (by decide) (by simp only [Int.reducePow]; omega)
    simpa using this
  cases on <;> simp only [sh41, joinA, go_sem, reduceIte, Nat.reduceAdd, Nat.reduceSub, Nat.reduceMul, Nat.reducePow, Nat.reduceLT, Nat.reduceLeDiff, Nat.reduceEqDiff, Int.reduceAdd, Int.reduceSub, Int.reduceMul, Int.reduceNeg, Int.reducePow, Int.reduceLT, Int.reduceLE, Int.reduceEq, Int.reduceNe, Int.reduceToNat, Int.toNat_natCast, Nat.zero_add, Nat.add_zero, Nat.mul_one, Nat.one_mul, Bool.not_true, Bool.not_false, ne_eq, not_true_eq_false, not_false_eq_true, Bool.false_eq_true, clear41 w h0 (by omega), withN, e] <;> simp
theorem turn_c {w : Int} (h0 : 0 ≤ w) (h1 : w < 18446744073709551616) (k : Int) (K : AV → H → Prop) : C 43 [.int .u64 w, .int .i64 k] h K = K (.int .u64 (withN w 42 20 k)) h := by
  refine callA_eq (run43 ?_) K
  have e : bits .or .u64 (w - w / 4398046511104 % 1048576 * 4398046511104) (k % 1048576 * 4398046511104) = w - w / 4398046511104 % 1048576 * 4398046511104 + k % 1048576 * 4398046511104 :=
    lay 42 20 (by decide) (w - w / 4398046511104 % 1048576 * 4398046511104) (k % 1048576) (by omega) (by omega) (by omega) (by simp only [Int.reducePow]; omega) (by simp only [Int.reducePow]; omega)
  have e2 : IntKind.u64.wrap (k % 1048576 * 4398046511104) = k % 1048576 * 4398046511104 := u64_id (by omega) (by omega)
  simp only [sh43, go_sem, reduceIte, Nat.reduceAdd, Nat.reduceSub, Nat.reduceMul, Nat.reducePow, Nat.reduceLT, Nat.reduceLeDiff, Nat.reduceEqDiff, Int.reduceAdd, Int.reduceSub, Int.reduceMul, Int.reduceNeg, Int.reducePow, Int.reduceLT, Int.reduceLE, Int.reduceEq, Int.reduceNe, Int.reduceToNat, Int.toNat_natCast, Nat.zero_add, Nat.add_zero, Nat.mul_one, Nat.one_mul, Bool.not_true, Bool.not_false, ne_eq, not_true_eq_false, not_false_eq_true, Bool.false_eq_true, clear42 w h0 (by omega), withN, and20', e2, e]
end
end Go.Proofs.Ytljkkfcokpimkaa.X
namespace Go.Proofs.Ytljkkfcokpimkaa.X
def cut : List Nat → Nat → Option (List Nat)
  | [], _ => none
  | _ :: _, 0 => none
  | d :: l, k + 1 => if d < 128 then some [d] else (cut l k).map (d :: ·)
end Go.Proofs.Ytljkkfcokpimkaa.X
set_option linter.unusedVariables false
set_option linter.unusedSimpArgs false
set_option maxRecDepth 20000
namespace Go.Proofs.Ytljkkfcokpimkaa.X
open Go Go.RowKit
@[go_sem] theorem fillV_int {z : AV} {k : IntKind} {n : Int} : fillV [z] [(0, 1, .int k n)] = some [.int k n] := by
  simp [fillV, AV.cells, leaves, AV.leaf, overlay]
end Go.Proofs.Ytljkkfcokpimkaa.X
set_option linter.unusedVariables false
set_option linter.unusedSimpArgs false
set_option maxRecDepth 20000
namespace Go.Proofs.Ytljkkfcokpimkaa.X
open Go Go.RowKit
theorem liesA_nil {h : H} {ls : List (List AV)} (hl : LiesA h [] ls) : ls = [] := by cases ls <;> first | rfl | exact hl.elim
theorem liesA_cons {h : H} {s : Sh} {ss : List Sh} {ls : List (List AV)} (hl : LiesA h (s :: ss) ls) : ∃ l ls', ls = l :: ls' ∧ Lies h s l ∧ LiesA h ss ls' := by
  cases ls with
  | nil => exact hl.elim
  | cons l ls => exact ⟨l, ls, rfl, hl.1, hl.2⟩
theorem lies_i64 {h : H} {l : List AV} (hl : Lies h (.int .i64) l) : ∃ n, l = [.int .i64 n] ∧ -9223372036854775808 ≤ n ∧ n < 9223372036854775808 := by
  simp only [Lies] at hl
  obtain ⟨n, rfl, hw⟩ := hl
  have := i64_wf hw
  exact ⟨n, rfl, by omega, by omega⟩
theorem lies_u64 {h : H} {l : List AV} (hl : Lies h (.int .u64) l) : ∃ n, l = [.int .u64 n] ∧ 0 ≤ n ∧ n < 18446744073709551616 := by
  simp only [Lies] at hl
  obtain ⟨n, rfl, hw⟩ := hl
  have := u64_wf hw
  exact ⟨n, rfl, by omega, by omega⟩
theorem lies_bool {h : H} {l : List AV} (hl : Lies h .bool l) : ∃ b, l = [.bool b] := by
  simpa only [Lies] using hl
end Go.Proofs.Ytljkkfcokpimkaa.X
set_option linter.unusedVariables false
set_option linter.unusedSimpArgs false
set_option maxRecDepth 20000
namespace Go.Proofs.Ytljkkfcokpimkaa.X
open Go Go.RowKit
def partsN (s n b k : Int) : Int := s * 2 + n * 2097152 + 1 + b * 2199023255552 + k * 4398046511104
theorem headN_parts (s n : Int) : headN s n = partsN (s % 1048576) (n % 1048576) 0 0 := by unfold headN partsN; omega
theorem mark_parts {s n b k x : Int} (hs0 : 0 ≤ s) (hs1 : s < 1048576) (hn0 : 0 ≤ n) (hn1 : n < 1048576) (hb0 : 0 ≤ b) (hb1 : b < 2) (hk0 : 0 ≤ k) (hk1 : k < 1048576) : withN (partsN s n b k) 41 1 x = partsN s n (x % 2) k := by
  unfold withN partsN; simp only [Int.reducePow]; omega
theorem turn_parts {s n b k x : Int} (hs0 : 0 ≤ s) (hs1 : s < 1048576) (hn0 : 0 ≤ n) (hn1 : n < 1048576) (hb0 : 0 ≤ b) (hb1 : b < 2) (hk0 : 0 ≤ k) (hk1 : k < 1048576) : withN (partsN s n b k) 42 20 x = partsN s n b (x % 1048576) := by
  unfold withN partsN; simp only [Int.reducePow]; omega
@[go_sem] theorem cell_same {h : H} {b off e : Nat} {cs : List AV} {o : Bool} : (h.set b (.live cs e o)).cell b off = cs[off]? := by
  unfold H.cell; rw [H.get_same]
end Go.Proofs.Ytljkkfcokpimkaa.X
set_option linter.unusedVariables false
set_option linter.unusedSimpArgs false
set_option maxRecDepth 20000
namespace Go.Proofs.Ytljkkfcokpimkaa.X
open Go Go.RowKit
section
variable {h : H}
theorem Own.fr {h0 h h' : H} {ty esz : Nat} {v : AV} {n : Nat} {cs : List AV} (o : Own h0 h ty esz v n cs) (f : Fr [] h h') : Own h0 h' ty esz v n cs := by
  refine ⟨o.1, ?_⟩
  rcases o.2 with q | ⟨b, q1, q2, q3⟩
  · exact .inl q
  · exact .inr ⟨b, q1, q2, f b _ (by simp) q3⟩
theorem sl_none {v : AV} {n esz : Nat} {cs : List AV} (hr : Row h v n esz cs) {j : Nat} (hj : j ≤ n) (hn : 0 < n) :
    ∃ v', sliceOp (.row esz) v none (some (.int .i64 j)) none = some v' ∧ Row h v' j esz (cs.take (j * esz)) := by
  obtain ⟨v', w1, w2⟩ := hr.slice (k := .i64) (k' := .i64) (i := 0) (j := j) (by omega) (by omega) (by omega) hn
  have e : sliceOp (.row esz) v none (some (.int .i64 j)) none = sliceOp (.row esz) v (some (.int .i64 0)) (some (.int .i64 j)) none := by
    rcases hr.2 with ⟨_, rfl⟩ | ⟨b, off, cap, rfl, _, _⟩ <;> rfl
  refine ⟨v', by rw [e]; exact w1, ?_⟩
  simpa using w2
end
end Go.Proofs.Ytljkkfcokpimkaa.X
set_option linter.unusedVariables false
set_option linter.unusedSimpArgs false
set_option maxRecDepth 20000
namespace Go.Proofs.Ytljkkfcokpimkaa.X
open Go Go.RowKit
def wc (l : List Int) : List AV := l.map fun n => AV.int .u64 n
def lc (l : List (Int × Int)) : List AV := l.flatMap fun x => [AV.int .i64 x.1, AV.int .i64 x.2]
theorem wc_length (l : List Int) : (wc l).length = l.length := by simp [wc]
theorem wc_set (l : List Int) (i : Nat) (v : Int) : (wc l).set i (.int .u64 v) = wc (l.set i v) := by simp [wc, List.map_set]
theorem wc_get (l : List Int) (i : Nat) : (wc l)[i]? = l[i]?.map (AV.int .u64 ·) := by simp [wc]
theorem lc_length (l : List (Int × Int)) : (lc l).length = l.length * 2 := by
  induction l with
  | nil => rfl
  | cons x l ih => simp only [lc, List.flatMap_cons] at ih ⊢; simp [ih]; omega
theorem lc_get : ∀ (l : List (Int × Int)) (i : Nat) (x : Int × Int), l[i]? = some x → (lc l)[i * 2]? = some (.int .i64 x.1) ∧ (lc l)[i * 2 + 1]? = some (.int .i64 x.2)
  | [], i, x, h => by simp at h
  | y :: l, 0, x, h => by
    simp at h; subst h
    simp [lc]
  | y :: l, i + 1, x, h => by
    have := lc_get l i x (by simpa using h)
    have e : lc (y :: l) = AV.int .i64 y.1 :: AV.int .i64 y.2 :: lc l := by simp [lc]
    rw [e, show (i + 1) * 2 = i * 2 + 1 + 1 by omega, show i * 2 + 1 + 1 + 1 = (i * 2 + 1) + 1 + 1 by omega]
    simpa using this
theorem lc_leaves (l : List (Int × Int)) : leaves (lc l) = true := by
  induction l with
  | nil => rfl
  | cons x l ih => simp only [lc, List.flatMap_cons] at ih ⊢; simp [leaves, AV.leaf, ih]
theorem wc_leaves (l : List Int) : leaves (wc l) = true := leaves_map _ (fun _ => rfl) l
theorem lc_drop (l : List (Int × Int)) (i : Nat) (x : Int × Int) (h : l[i]? = some x) : ((lc l).drop (i * 2)).take 2 = [.int .i64 x.1, .int .i64 x.2] := by
  have hx := lc_get l i x h
  have hl : i < l.length := (List.getElem?_eq_some_iff.1 h).1
  apply List.ext_getElem?
  intro j
  rw [List.getElem?_take, List.getElem?_drop]
  match j with
  | 0 => simpa using hx.1
  | 1 => simpa using hx.2
  | j + 2 => simp; omega
structure Hs where
  words : List Int
  heads : List Int
  lays : List (Int × Int)
  top : Nat
def LayV (h : H) (v : AV) (B : List Nat) (l : List (Int × Int)) : Prop :=
  (l = [] ∧ v = .nilsl ∧ B = []) ∨ ∃ b, v = .sl b 0 l.length (.more 2) ∧ B = [b] ∧ h.get b = some (.live (lc l) 60 true)
theorem LayV.row {h : H} {v : AV} {B : List Nat} {l : List (Int × Int)} (o : LayV h v B l) : Row h v l.length 2 (lc l) := by
  refine ⟨lc_length l, ?_⟩
  rcases o with ⟨rfl, rfl, _⟩ | ⟨b, rfl, _, hb⟩
  · exact .inl ⟨rfl, rfl⟩
  · exact .inr ⟨b, 0, _, rfl, rfl, H.read_eq hb (by rw [lc_length]; omega) (by rw [List.drop_zero, List.take_of_length_le (by rw [lc_length]; omega)])⟩
structure HeapAt (h : H) (b bw bd : Nat) (B : List Nat) (s : Hs) : Prop where
  st : ∃ lv, h.get b = some (.live [.sl bw 0 s.words.length (.exact s.words.length), .sl bd 0 s.heads.length (.exact s.heads.length), lv, .int .i64 s.top] 130 true) ∧ LayV h lv B s.lays
  wd : h.get bw = some (.live (wc s.words) 25 true)
  hd : h.get bd = some (.live (wc s.heads) 25 true)
  ne : b ≠ bw ∧ b ≠ bd ∧ bw ≠ bd ∧ b ∉ B ∧ bw ∉ B ∧ bd ∉ B
structure Hs.good (s : Hs) : Prop where
  wlen : s.words.length ≤ 65536
  hlen : s.heads.length = s.words.length / 64 + 1
  llen : s.lays.length ≤ 512
  kinds : ∀ x ∈ s.lays, 1 ≤ x.1 ∧ x.1 ≤ 3 ∧ 0 ≤ x.2 ∧ x.2 ≤ 65536
  wrange : ∀ w ∈ s.words, 0 ≤ w ∧ w < 18446744073709551616
  hrange : ∀ w ∈ s.heads, 0 ≤ w ∧ w < 18446744073709551616
  top : s.top ≤ s.words.length
def badLay (x : Int × Int) : Bool := decide (x.1 < 1) || decide (3 < x.1) || decide (x.2 < 0) || decide (65536 < x.2)
theorem badLay_t {x y : Int} : badLay (x, y) = true ↔ (x < 1 ∨ 3 < x ∨ y < 0 ∨ 65536 < y) := by simp [badLay, or_assoc]
theorem badLay_f {x y : Int} : badLay (x, y) = false ↔ ¬ (x < 1 ∨ 3 < x ∨ y < 0 ∨ 65536 < y) := by rw [← badLay_t]; simp
def newErr (words : Int) (lays : List (Int × Int)) : Int := if words < 0 ∨ 65536 < words then 1 else if 512 < lays.length then 2 else if lays.any badLay then 1 else 0
def newHs (n : Nat) (lays : List (Int × Int)) : Hs := ⟨List.replicate n 0, List.replicate (n / 64 + 1) 0, lays, 0⟩
section
variable {h : H}
theorem lies_lays {l : List AV} (hl : Lies h (.sl (.st [.int .i64, .int .i64])) l) : ∃ v L, l = [v] ∧ Row h v L.length 2 (lc L) ∧ (∀ x ∈ L, -9223372036854775808 ≤ x.1 ∧ x.1 < 9223372036854775808 ∧ -9223372036854775808 ≤ x.2 ∧ x.2 < 9223372036854775808) ∧ L.length ≤ reachBytes := by
  simp only [Lies] at hl
  rcases hl with rfl | ⟨b, ei, css, rfl, hb, hm, hcs⟩
  · exact ⟨.nilsl, [], rfl, ⟨rfl, .inl ⟨rfl, rfl⟩⟩, by simp, by simp⟩
  · obtain ⟨L, hL, hfl, hlen⟩ : ∃ L : List (Int × Int), (∀ x ∈ L, -9223372036854775808 ≤ x.1 ∧ x.1 < 9223372036854775808 ∧ -9223372036854775808 ≤ x.2 ∧ x.2 < 9223372036854775808) ∧ css.flatten = lc L ∧ L.length = css.length := by
      clear hb hm
      induction css with
      | nil => exact ⟨[], by simp, rfl, rfl⟩
      | cons c css ih =>
        obtain ⟨L, i1, i2, i3⟩ := ih fun c hc => hcs c (by simp [hc])
        have hc := hcs c (by simp)
        simp only [LiesL] at hc
        obtain ⟨a1, t1, rfl, g1, a2, t2, rfl, g2, rfl⟩ := hc
        obtain ⟨x1, rfl, u1, u2⟩ := lies_i64 (h := h) (by simpa only [Lies] using g1)
        obtain ⟨x2, rfl, u3, u4⟩ := lies_i64 (h := h) (by simpa only [Lies] using g2)
        refine ⟨(x1, x2) :: L, ?_, ?_, by simp [i3]⟩
        · intro d hd
          rcases List.mem_cons.1 hd with rfl | hd
          · exact ⟨u1, u2, u3, u4⟩
          · exact i1 d hd
        · simp only [List.flatten_cons, i2, lc, List.flatMap_cons]; rfl
    refine ⟨_, L, rfl, ⟨lc_length L, .inr ⟨b, 0, .any, by rw [hlen], rfl, ?_⟩⟩, hL, by omega⟩
    refine H.read_eq hb (by rw [hfl, lc_length]; omega) ?_
    rw [hfl, List.drop_zero, List.take_of_length_le (by rw [lc_length]; omega)]
theorem Row.lay {v : AV} {L : List (Int × Int)} (hr : Row h v L.length 2 (lc L)) {i : Nat} {x : Int × Int} (hx : L[i]? = some x) :
    ∃ b o, (∀ k, iaA 2 v (.int k i) = some (.ptr b o)) ∧ h.cell b o = some (.int .i64 x.1) ∧ h.cell b (o + 1) = some (.int .i64 x.2) ∧ h.read b o 2 = some [.int .i64 x.1, .int .i64 x.2] := by
  have hl : i < L.length := (List.getElem?_eq_some_iff.1 hx).1
  obtain ⟨b, o, q1, q2, q3⟩ := hr.el (i := i) (by omega) (by omega)
  have hg := lc_get L i x hx
  refine ⟨b, o, q1, ?_, ?_, ?_⟩
  · have := q2 0 (by decide)
    simpa [hg.1] using this
  · have := q2 1 (by decide)
    simpa [hg.2] using this
  · rw [q3, Int.toNat_natCast, lc_drop L i x hx]
theorem agg_write {b e : Nat} {x y z w : AV} (hv : leaves [z, w] = true) : (h.set b (.live [x, y] e true)).write b 0 [z, w] = some (h.set b (.live [z, w] e true)) := write_new rfl hv
theorem check_c {words : Int} {v : AV} {L : List (Int × Int)} (hr : Row h v L.length 2 (lc L)) (hm : L.length ≤ reachBytes) {K : AV → H → Prop} (hK : ∀ h', Fr [] h h' → K (.int .i64 (newErr words L)) h') :
    C 50 [.int .i64 words, v] h K := by
  refine run50 ?_
  by_cases h1 : words < 0
  · simp only [sh50, go_sem, reduceIte, Nat.reduceAdd, Nat.reduceSub, Nat.reduceMul, Nat.reducePow, Nat.reduceLT, Nat.reduceLeDiff, Nat.reduceEqDiff, Int.reduceAdd, Int.reduceSub, Int.reduceMul, Int.reduceNeg, Int.reducePow, Int.reduceLT, Int.reduceLE, Int.reduceEq, Int.reduceNe, Int.reduceToNat, Int.toNat_natCast, Nat.zero_add, Nat.add_zero, Nat.mul_one, Nat.one_mul, Bool.not_true, Bool.not_false, ne_eq, not_true_eq_false, not_false_eq_true, Bool.false_eq_true, h1]
    have e : newErr words L = 1 := by unfold newErr; rw [if_pos (.inl h1)]
    rw [e] at hK; exact hK h (Fr.refl _ _)
  by_cases h2 : 65536 < words
  · simp only [sh50, go_sem, reduceIte, Nat.reduceAdd, Nat.reduceSub, Nat.reduceMul, Nat.reducePow, Nat.reduceLT, Nat.reduceLeDiff, Nat.reduceEqDiff, Int.reduceAdd, Int.reduceSub, Int.reduceMul, Int.reduceNeg, Int.reducePow, Int.reduceLT, Int.reduceLE, Int.reduceEq, Int.reduceNe, Int.reduceToNat, Int.toNat_natCast, Nat.zero_add, Nat.add_zero, Nat.mul_one, Nat.one_mul, Bool.not_true, Bool.not_false, ne_eq, not_true_eq_false, not_false_eq_true, Bool.false_eq_true, h1, h2]
    have e : newErr words L = 1 := by unfold newErr; rw [if_pos (.inr h2)]
    rw [e] at hK; exact hK h (Fr.refl _ _)
  by_cases h3 : (512 : Int) < L.length
  · simp only [sh50, go_sem, reduceIte, Nat.reduceAdd, Nat.reduceSub, Nat.reduceMul, Nat.reducePow, Nat.reduceLT, Nat.reduceLeDiff, Nat.reduceEqDiff, Int.reduceAdd, Int.reduceSub, Int.reduceMul, Int.reduceNeg, Int.reducePow, Int.reduceLT, Int.reduceLE, Int.reduceEq, Int.reduceNe, Int.reduceToNat, Int.toNat_natCast, Nat.zero_add, Nat.add_zero, Nat.mul_one, Nat.one_mul, Bool.not_true, Bool.not_false, ne_eq, not_true_eq_false, not_false_eq_true, Bool.false_eq_true, h1, h2, hr.len, h3]
    have e : newErr words L = 2 := by unfold newErr; rw [if_neg (by omega), if_pos (by omega)]
    rw [e] at hK; exact hK h (Fr.refl _ _)
  simp only [sh50, go_sem, reduceIte, Nat.reduceAdd, Nat.reduceSub, Nat.reduceMul, Nat.reducePow, Nat.reduceLT, Nat.reduceLeDiff, Nat.reduceEqDiff, Int.reduceAdd, Int.reduceSub, Int.reduceMul, Int.reduceNeg, Int.reducePow, Int.reduceLT, Int.reduceLE, Int.reduceEq, Int.reduceNe, Int.reduceToNat, Int.toNat_natCast, Nat.zero_add, Nat.add_zero, Nat.mul_one, Nat.one_mul, Bool.not_true, Bool.not_false, ne_eq, not_true_eq_false, not_false_eq_true, Bool.false_eq_true, h1, h2, hr.len, h3]
  have e0 : newErr words L = if L.any badLay then 1 else 0 := by unfold newErr; rw [if_neg (by omega), if_neg (by omega)]
  refine join_r (fun J => ∀ h', Fr [] h h' → L.any badLay = false → J h') (fun h' f hb => by rw [e0, hb] at hK; exact hK h' f) fun J hJ => ?_
  refine loop_r L.length (fun k l h' => ∃ i : Nat, l = [.int .i64 i] ∧ i ≤ L.length ∧ Fr [] h h' ∧ (∀ x ∈ L.take i, badLay x = false) ∧ k = L.length - i) ⟨0, rfl, by omega, Fr.refl _ _, by simp, rfl⟩ ?_
  rintro k l h' ⟨i, rfl, hi, f, hall, rfl⟩
  by_cases hlt : (i : Int) < L.length
  · have hlt' : i < L.length := by omega
    obtain ⟨⟨x1, x2⟩, hx⟩ : ∃ x, L[i]? = some x := ⟨L[i], by simp [hlt']⟩
    obtain ⟨b, o, q1, q2, q3, q4⟩ := (hr.fr f).lay hx
    have e2 : IntKind.i64.wrap ((i : Int) + 1) = ((i + 1 : Nat) : Int) := by
      have : reachBytes ≤ 4611686018427387903 := by decide
      rw [i64_id (by omega) (by omega)]; rfl
    have hmem : (x1, x2) ∈ L := List.mem_of_getElem? hx
    simp only [go_sem, reduceIte, Nat.reduceAdd, Nat.reduceSub, Nat.reduceMul, Nat.reducePow, Nat.reduceLT, Nat.reduceLeDiff, Nat.reduceEqDiff, Int.reduceAdd, Int.reduceSub, Int.reduceMul, Int.reduceNeg, Int.reducePow, Int.reduceLT, Int.reduceLE, Int.reduceEq, Int.reduceNe, Int.reduceToNat, Int.toNat_natCast, Nat.zero_add, Nat.add_zero, Nat.mul_one, Nat.one_mul, Bool.not_true, Bool.not_false, ne_eq, not_true_eq_false, not_false_eq_true, Bool.false_eq_true, hlt, q1, q4]
    refine ⟨rfl, fun c hc => ?_⟩
    have hf' : ∀ o, Fr [] h (h'.set c o) := fun o => f.set' (f.free hc)
    have hgoal1 : badLay (x1, x2) = true → ∀ o, K (.int .i64 1) (h'.set c o) := fun hb o => by
      have : L.any badLay = true := List.any_eq_true.2 ⟨_, hmem, hb⟩
      rw [e0, this] at hK; exact hK _ (hf' o)
    have hnext : badLay (x1, x2) = false → ∀ y ∈ L.take (i + 1), badLay y = false := fun hb y hy => by
      rw [List.take_add_one, hx] at hy
      rcases List.mem_append.1 hy with hy | hy
      · exact hall y hy
      · simp at hy; subst hy; exact hb
    have hw : leaves [AV.int .i64 x1, AV.int .i64 x2] = true := rfl
    simp only [go_sem, reduceIte, Nat.reduceAdd, Nat.reduceSub, Nat.reduceMul, Nat.reducePow, Nat.reduceLT, Nat.reduceLeDiff, Nat.reduceEqDiff, Int.reduceAdd, Int.reduceSub, Int.reduceMul, Int.reduceNeg, Int.reducePow, Int.reduceLT, Int.reduceLE, Int.reduceEq, Int.reduceNe, Int.reduceToNat, Int.toNat_natCast, Nat.zero_add, Nat.add_zero, Nat.mul_one, Nat.one_mul, Bool.not_true, Bool.not_false, ne_eq, not_true_eq_false, not_false_eq_true, Bool.false_eq_true, AV.cells, stA_p, agg_write hw, cell_same]
    rw [badLay_t] at hgoal1
    rw [badLay_f] at hnext
    by_cases a1 : x1 = 1
    · subst a1
      by_cases a4 : x2 < 0
      · simp only [go_sem, reduceIte, Nat.reduceAdd, Nat.reduceSub, Nat.reduceMul, Nat.reducePow, Nat.reduceLT, Nat.reduceLeDiff, Nat.reduceEqDiff, Int.reduceAdd, Int.reduceSub, Int.reduceMul, Int.reduceNeg, Int.reducePow, Int.reduceLT, Int.reduceLE, Int.reduceEq, Int.reduceNe, Int.reduceToNat, Int.toNat_natCast, Nat.zero_add, Nat.add_zero, Nat.mul_one, Nat.one_mul, Bool.not_true, Bool.not_false, ne_eq, not_true_eq_false, not_false_eq_true, Bool.false_eq_true, a4]; exact hgoal1 (by omega) _
      · by_cases a5 : 65536 < x2
        · simp only [go_sem, reduceIte, Nat.reduceAdd, Nat.reduceSub, Nat.reduceMul, Nat.reducePow, Nat.reduceLT, Nat.reduceLeDiff, Nat.reduceEqDiff, Int.reduceAdd, Int.reduceSub, Int.reduceMul, Int.reduceNeg, Int.reducePow, Int.reduceLT, Int.reduceLE, Int.reduceEq, Int.reduceNe, Int.reduceToNat, Int.toNat_natCast, Nat.zero_add, Nat.add_zero, Nat.mul_one, Nat.one_mul, Bool.not_true, Bool.not_false, ne_eq, not_true_eq_false, not_false_eq_true, Bool.false_eq_true, a4, a5]; exact hgoal1 (by omega) _
        · simp only [go_sem, reduceIte, Nat.reduceAdd, Nat.reduceSub, Nat.reduceMul, Nat.reducePow, Nat.reduceLT, Nat.reduceLeDiff, Nat.reduceEqDiff, Int.reduceAdd, Int.reduceSub, Int.reduceMul, Int.reduceNeg, Int.reducePow, Int.reduceLT, Int.reduceLE, Int.reduceEq, Int.reduceNe, Int.reduceToNat, Int.toNat_natCast, Nat.zero_add, Nat.add_zero, Nat.mul_one, Nat.one_mul, Bool.not_true, Bool.not_false, ne_eq, not_true_eq_false, not_false_eq_true, Bool.false_eq_true, a4, a5, e2]
          exact ⟨L.length - (i + 1), by omega, i + 1, rfl, by omega, hf' _, hnext (by omega), rfl⟩
    · by_cases a2 : x1 = 2
      · subst a2
        by_cases a4 : x2 < 0
        · simp only [go_sem, reduceIte, Nat.reduceAdd, Nat.reduceSub, Nat.reduceMul, Nat.reducePow, Nat.reduceLT, Nat.reduceLeDiff, Nat.reduceEqDiff, Int.reduceAdd, Int.reduceSub, Int.reduceMul, Int.reduceNeg, Int.reducePow, Int.reduceLT, Int.reduceLE, Int.reduceEq, Int.reduceNe, Int.reduceToNat, Int.toNat_natCast, Nat.zero_add, Nat.add_zero, Nat.mul_one, Nat.one_mul, Bool.not_true, Bool.not_false, ne_eq, not_true_eq_false, not_false_eq_true, Bool.false_eq_true, a4]; exact hgoal1 (by omega) _
        · by_cases a5 : 65536 < x2
          · simp only [go_sem, reduceIte, Nat.reduceAdd, Nat.reduceSub, Nat.reduceMul, Nat.reducePow, Nat.reduceLT, Nat.reduceLeDiff, Nat.reduceEqDiff, Int.reduceAdd, Int.reduceSub, Int.reduceMul, Int.reduceNeg, Int.reducePow, Int.reduceLT, Int.reduceLE, Int.reduceEq, Int.reduceNe, Int.reduceToNat, Int.toNat_natCast, Nat.zero_add, Nat.add_zero, Nat.mul_one, Nat.one_mul, Bool.not_true, Bool.not_false, ne_eq, not_true_eq_false, not_false_eq_true, Bool.false_eq_true, a4, a5]; exact hgoal1 (by omega) _
          · simp only [go_sem, reduceIte, Nat.reduceAdd, Nat.reduceSub, Nat.reduceMul, Nat.reducePow, Nat.reduceLT, Nat.reduceLeDiff, Nat.reduceEqDiff, Int.reduceAdd, Int.reduceSub, Int.reduceMul, Int.reduceNeg, Int.reducePow, Int.reduceLT, Int.reduceLE, Int.reduceEq, Int.reduceNe, Int.reduceToNat, Int.toNat_natCast, Nat.zero_add, Nat.add_zero, Nat.mul_one, Nat.one_mul, Bool.not_true, Bool.not_false, ne_eq, not_true_eq_false, not_false_eq_true, Bool.false_eq_true, a4, a5, e2]
            exact ⟨L.length - (i + 1), by omega, i + 1, rfl, by omega, hf' _, hnext (by omega), rfl⟩
      · by_cases a3 : x1 = 3
        · subst a3
          by_cases a4 : x2 < 0
          · simp only [go_sem, reduceIte, Nat.reduceAdd, Nat.reduceSub, Nat.reduceMul, Nat.reducePow, Nat.reduceLT, Nat.reduceLeDiff, Nat.reduceEqDiff, Int.reduceAdd, Int.reduceSub, Int.reduceMul, Int.reduceNeg, Int.reducePow, Int.reduceLT, Int.reduceLE, Int.reduceEq, Int.reduceNe, Int.reduceToNat, Int.toNat_natCast, Nat.zero_add, Nat.add_zero, Nat.mul_one, Nat.one_mul, Bool.not_true, Bool.not_false, ne_eq, not_true_eq_false, not_false_eq_true, Bool.false_eq_true, a4]; exact hgoal1 (by omega) _
          · by_cases a5 : 65536 < x2
            · simp only [go_sem, reduceIte, Nat.reduceAdd, Nat.reduceSub, Nat.reduceMul, Nat.reducePow, Nat.reduceLT, Nat.reduceLeDiff, Nat.reduceEqDiff, Int.reduceAdd, Int.reduceSub, Int.reduceMul, Int.reduceNeg, Int.reducePow, Int.reduceLT, Int.reduceLE, Int.reduceEq, Int.reduceNe, Int.reduceToNat, Int.toNat_natCast, Nat.zero_add, Nat.add_zero, Nat.mul_one, Nat.one_mul, Bool.not_true, Bool.not_false, ne_eq, not_true_eq_false, not_false_eq_true, Bool.false_eq_true, a4, a5]; exact hgoal1 (by omega) _
            · simp only [go_sem, reduceIte, Nat.reduceAdd, Nat.reduceSub, Nat.reduceMul, Nat.reducePow, Nat.reduceLT, Nat.reduceLeDiff, Nat.reduceEqDiff, Int.reduceAdd, Int.reduceSub, Int.reduceMul, Int.reduceNeg, Int.reducePow, Int.reduceLT, Int.reduceLE, Int.reduceEq, Int.reduceNe, Int.reduceToNat, Int.toNat_natCast, Nat.zero_add, Nat.add_zero, Nat.mul_one, Nat.one_mul, Bool.not_true, Bool.not_false, ne_eq, not_true_eq_false, not_false_eq_true, Bool.false_eq_true, a4, a5, e2]
              exact ⟨L.length - (i + 1), by omega, i + 1, rfl, by omega, hf' _, hnext (by omega), rfl⟩
        · simp only [go_sem, reduceIte, Nat.reduceAdd, Nat.reduceSub, Nat.reduceMul, Nat.reducePow, Nat.reduceLT, Nat.reduceLeDiff, Nat.reduceEqDiff, Int.reduceAdd, Int.reduceSub, Int.reduceMul, Int.reduceNeg, Int.reducePow, Int.reduceLT, Int.reduceLE, Int.reduceEq, Int.reduceNe, Int.reduceToNat, Int.toNat_natCast, Nat.zero_add, Nat.add_zero, Nat.mul_one, Nat.one_mul, Bool.not_true, Bool.not_false, ne_eq, not_true_eq_false, not_false_eq_true, Bool.false_eq_true, a1, a2, a3]; exact hgoal1 (by omega) _
  · simp only [go_sem, reduceIte, Nat.reduceAdd, Nat.reduceSub, Nat.reduceMul, Nat.reducePow, Nat.reduceLT, Nat.reduceLeDiff, Nat.reduceEqDiff, Int.reduceAdd, Int.reduceSub, Int.reduceMul, Int.reduceNeg, Int.reducePow, Int.reduceLT, Int.reduceLE, Int.reduceEq, Int.reduceNe, Int.reduceToNat, Int.toNat_natCast, Nat.zero_add, Nat.add_zero, Nat.mul_one, Nat.one_mul, Bool.not_true, Bool.not_false, ne_eq, not_true_eq_false, not_false_eq_true, Bool.false_eq_true, hlt]
    have : i = L.length := by omega
    subst this
    rw [List.take_length] at hall
    exact hJ h' f (by rw [Bool.eq_false_iff]; intro q; obtain ⟨x, hx, hb⟩ := List.any_eq_true.1 q; rw [hall x hx] at hb; cases hb)
theorem wc_zero (n : Nat) : List.replicate n (AV.int .u64 0) = wc (List.replicate n 0) := by simp [wc]
theorem new_c {words : Int} {v : AV} {L : List (Int × Int)} (hr : Row h v L.length 2 (lc L)) (hm : L.length ≤ reachBytes) {K : AV → H → Prop}
    (hbad : newErr words L ≠ 0 → ∀ h', Fr [] h h' → K (.tup [.nilp, .int .i64 (newErr words L)]) h')
    (hgood : newErr words L = 0 → ∀ h' b bw bd B, Fr [] h h' → Fresh h (b :: bw :: bd :: B) → HeapAt h' b bw bd B (newHs words.toNat L) → K (.tup [.ptr b 0, .int .i64 0]) h') :
    C 49 [.int .i64 words, v] h K := by
  refine run49 ?_
  by_cases h1 : words < 0
  · simp only [sh49, go_sem, reduceIte, Nat.reduceAdd, Nat.reduceSub, Nat.reduceMul, Nat.reducePow, Nat.reduceLT, Nat.reduceLeDiff, Nat.reduceEqDiff, Int.reduceAdd, Int.reduceSub, Int.reduceMul, Int.reduceNeg, Int.reducePow, Int.reduceLT, Int.reduceLE, Int.reduceEq, Int.reduceNe, Int.reduceToNat, Int.toNat_natCast, Nat.zero_add, Nat.add_zero, Nat.mul_one, Nat.one_mul, Bool.not_true, Bool.not_false, ne_eq, not_true_eq_false, not_false_eq_true, Bool.false_eq_true, h1]
    have e : newErr words L = 1 := by unfold newErr; rw [if_pos (.inl h1)]
    rw [e] at hbad; exact hbad (by decide) h (Fr.refl _ _)
  by_cases h2 : 65536 < words
  · simp only [sh49, go_sem, reduceIte, Nat.reduceAdd, Nat.reduceSub, Nat.reduceMul, Nat.reducePow, Nat.reduceLT, Nat.reduceLeDiff, Nat.reduceEqDiff, Int.reduceAdd, Int.reduceSub, Int.reduceMul, Int.reduceNeg, Int.reducePow, Int.reduceLT, Int.reduceLE, Int.reduceEq, Int.reduceNe, Int.reduceToNat, Int.toNat_natCast, Nat.zero_add, Nat.add_zero, Nat.mul_one, Nat.one_mul, Bool.not_true, Bool.not_false, ne_eq, not_true_eq_false, not_false_eq_true, Bool.false_eq_true, h1, h2]
    have e : newErr words L = 1 := by unfold newErr; rw [if_pos (.inr h2)]
    rw [e] at hbad; exact hbad (by decide) h (Fr.refl _ _)
  by_cases h3 : (512 : Int) < L.length
  · simp only [sh49, go_sem, reduceIte, Nat.reduceAdd, Nat.reduceSub, Nat.reduceMul, Nat.reducePow, Nat.reduceLT, Nat.reduceLeDiff, Nat.reduceEqDiff, Int.reduceAdd, Int.reduceSub, Int.reduceMul, Int.reduceNeg, Int.reducePow, Int.reduceLT, Int.reduceLE, Int.reduceEq, Int.reduceNe, Int.reduceToNat, Int.toNat_natCast, Nat.zero_add, Nat.add_zero, Nat.mul_one, Nat.one_mul, Bool.not_true, Bool.not_false, ne_eq, not_true_eq_false, not_false_eq_true, Bool.false_eq_true, h1, h2, hr.len, h3]
    have e : newErr words L = 2 := by unfold newErr; rw [if_neg (by omega), if_pos (by omega)]
    rw [e] at hbad; exact hbad (by decide) h (Fr.refl _ _)
  simp only [sh49, go_sem, reduceIte, Nat.reduceAdd, Nat.reduceSub, Nat.reduceMul, Nat.reducePow, Nat.reduceLT, Nat.reduceLeDiff, Nat.reduceEqDiff, Int.reduceAdd, Int.reduceSub, Int.reduceMul, Int.reduceNeg, Int.reducePow, Int.reduceLT, Int.reduceLE, Int.reduceEq, Int.reduceNe, Int.reduceToNat, Int.toNat_natCast, Nat.zero_add, Nat.add_zero, Nat.mul_one, Nat.one_mul, Bool.not_true, Bool.not_false, ne_eq, not_true_eq_false, not_false_eq_true, Bool.false_eq_true, h1, h2, hr.len, h3]
  have e0 : newErr words L = if L.any badLay then 1 else 0 := by unfold newErr; rw [if_neg (by omega), if_neg (by omega)]
  have ew : IntKind.i64.wrap (IntKind.i64.wrap (words.tdiv 64) + 1) = words / 64 + 1 := by
    rw [Int.tdiv_eq_ediv_of_nonneg (by omega), i64_id (n := words / 64) (by omega) (by omega), i64_id (by omega) (by omega)]
  refine join_r (fun J => ∀ h', Fr [] h h' → L.any badLay = false → J h') ?_ fun J hJ => ?_
  · intro h' f hb
    rw [hb] at e0
    have hgood := hgood e0
    have fin : ∀ lv B h1, Fr [] h h1 → Fresh h B → LayV h1 lv B L →
        mksA h1 25 [.int .u64 0] 8 (.int .i64 words) (.int .i64 words) (fun t43 h => mksA h 25 [.int .u64 0] 8 (.int .i64 (words / 64 + 1)) (.int .i64 (words / 64 + 1)) fun t47 h =>
          valA (buildA (fillV [.nilsl, .nilsl, .nilsl, .int .i64 0] [(0, 1, t43), (1, 1, t47), (2, 1, lv)])) h fun t50 h => boxA h (AV.cells t50) 130 fun t51 h => K (.tup [t51, .int .i64 0]) h) := by
      intro lv B h1 f1 hB hlv
      have n1 : natOf (.int .i64 words) = some words.toNat := by simp [natOf]; omega
      have n2 : natOf (.int .i64 (words / 64 + 1)) = some (words.toNat / 64 + 1) := by simp only [natOf]; rw [if_pos (by omega)]; congr 1; omega
      unfold mksA
      rw [n1]
      simp only
      refine ⟨⟨Nat.le_refl _, by unfold most; omega, by omega⟩, by rw [repCells_int]; exact leaves_replicate .., fun bw hbw => ?_⟩
      rw [n2]
      simp only
      refine ⟨⟨Nat.le_refl _, by unfold most; omega, by omega⟩, by rw [repCells_int]; exact leaves_replicate .., fun bd hbd => ?_⟩
      have hlvl : lv.leaf = true ∧ lv.cells = [lv] := by rcases hlv with ⟨_, rfl, _⟩ | ⟨_, rfl, _⟩ <;> exact ⟨rfl, rfl⟩
      have efill : fillV [.nilsl, .nilsl, .nilsl, .int .i64 0] [(0, 1, .sl bw 0 words.toNat (.exact words.toNat)), (1, 1, .sl bd 0 (words.toNat / 64 + 1) (.exact (words.toNat / 64 + 1))), (2, 1, lv)] =
          some [.sl bw 0 words.toNat (.exact words.toNat), .sl bd 0 (words.toNat / 64 + 1) (.exact (words.toNat / 64 + 1)), lv, .int .i64 0] := by
        rcases hlv with ⟨_, e, _⟩ | ⟨_, e, _⟩ <;> subst e <;> simp [fillV, AV.cells, leaves, AV.leaf, overlay]
      simp only [efill, buildA_s, valA_some]
      refine ⟨by simp only [AV.cells, leaves, hlvl.1]; rfl, fun b hb => ?_⟩
      have nb : b ≠ bw ∧ b ≠ bd ∧ bw ≠ bd := by
        refine ⟨fun e => ?_, fun e => ?_, fun e => ?_⟩
        · subst e; by_cases q : b = bd
          · subst q; rw [H.get_same] at hb; cases hb
          · rw [H.get_other _ _ q, H.get_same] at hb; cases hb
        · subst e; rw [H.get_same] at hb; cases hb
        · subst e; rw [H.get_same] at hbd; cases hbd
      have hbd1 : h1.get bd = none := by rw [H.get_other _ _ (fun e => nb.2.2 e.symm)] at hbd; exact hbd
      have hb1 : h1.get b = none := by rw [H.get_other _ _ nb.2.1, H.get_other _ _ nb.1] at hb; exact hb
      have hBne : ∀ c ∈ B, h1.get c ≠ none := by
        intro c hc
        rcases hlv with ⟨_, _, rfl⟩ | ⟨bl, _, rfl, hg⟩
        · cases hc
        · simp at hc; subst hc; rw [hg]; simp
      refine hgood _ b bw bd B (((f1.set' (f1.free hbw)).set' (f1.free hbd1)).set' (f1.free hb1)) ?_ ⟨⟨lv, ?_, ?_⟩, ?_, ?_, nb.1, nb.2.1, nb.2.2, fun q => hBne _ q hb1, fun q => hBne _ q hbw, fun q => hBne _ q hbd1⟩
      · intro c hc
        simp only [List.mem_cons] at hc
        rcases hc with rfl | rfl | rfl | hc
        · exact f1.free hb1
        · exact f1.free hbw
        · exact f1.free hbd1
        · exact hB c hc
      · rw [H.get_same]; simp [newHs, AV.cells]
      · rcases hlv with q | ⟨bl, q1, q2, q3⟩
        · exact .inl q
        · have g1 : bl ≠ b := fun e => by subst e; rw [hb1] at q3; cases q3
          have g2 : bl ≠ bd := fun e => by subst e; rw [hbd1] at q3; cases q3
          have g3 : bl ≠ bw := fun e => by subst e; rw [hbw] at q3; cases q3
          exact .inr ⟨bl, q1, q2, by rw [H.get_other _ _ g1, H.get_other _ _ g2, H.get_other _ _ g3]; exact q3⟩
      · rw [H.get_other _ _ (fun e => nb.1 e.symm), H.get_other _ _ nb.2.2, H.get_same, repCells_int, wc_zero]; rfl
      · rw [H.get_other _ _ (fun e => nb.2.1 e.symm), H.get_same, repCells_int, wc_zero]; rfl
    simp only [go_sem, reduceIte, Nat.reduceAdd, Nat.reduceSub, Nat.reduceMul, Nat.reducePow, Nat.reduceLT, Nat.reduceLeDiff, Nat.reduceEqDiff, Int.reduceAdd, Int.reduceSub, Int.reduceMul, Int.reduceNeg, Int.reducePow, Int.reduceLT, Int.reduceLE, Int.reduceEq, Int.reduceNe, Int.reduceToNat, Int.toNat_natCast, Nat.zero_add, Nat.add_zero, Nat.mul_one, Nat.one_mul, Bool.not_true, Bool.not_false, ne_eq, not_true_eq_false, not_false_eq_true, Bool.false_eq_true, ew]
    unfold appendA
    rw [(hr.fr f).src]
    simp only
    by_cases hn : L.length = 0
    · have : L = [] := List.eq_nil_of_length_eq_zero hn
      subst this
      simp only [List.length_nil, if_true]
      exact fin .nilsl [] h' f (by intro c hc; cases hc) (.inl ⟨rfl, rfl, rfl⟩)
    · rw [if_neg hn]
      refine ⟨by unfold most; omega, lc_leaves L, fun bl hbl => ?_⟩
      exact fin _ [bl] _ (f.set' (f.free hbl)) (by intro c hc; simp at hc; subst hc; exact f.free hbl) (.inr ⟨bl, rfl, rfl, H.get_same ..⟩)
  refine loop_r L.length (fun k l h' => ∃ i : Nat, l = [.int .i64 i] ∧ i ≤ L.length ∧ Fr [] h h' ∧ (∀ x ∈ L.take i, badLay x = false) ∧ k = L.length - i) ⟨0, rfl, by omega, Fr.refl _ _, by simp, rfl⟩ ?_
  rintro k l h' ⟨i, rfl, hi, f, hall, rfl⟩
  by_cases hlt : (i : Int) < L.length
  · have hlt' : i < L.length := by omega
    obtain ⟨⟨x1, x2⟩, hx⟩ : ∃ x, L[i]? = some x := ⟨L[i], by simp [hlt']⟩
    obtain ⟨b, o, q1, q2, q3, q4⟩ := (hr.fr f).lay hx
    have e2 : IntKind.i64.wrap ((i : Int) + 1) = ((i + 1 : Nat) : Int) := by
      have : reachBytes ≤ 4611686018427387903 := by decide
      rw [i64_id (by omega) (by omega)]; rfl
    have hmem : (x1, x2) ∈ L := List.mem_of_getElem? hx
    simp only [go_sem, reduceIte, Nat.reduceAdd, Nat.reduceSub, Nat.reduceMul, Nat.reducePow, Nat.reduceLT, Nat.reduceLeDiff, Nat.reduceEqDiff, Int.reduceAdd, Int.reduceSub, Int.reduceMul, Int.reduceNeg, Int.reducePow, Int.reduceLT, Int.reduceLE, Int.reduceEq, Int.reduceNe, Int.reduceToNat, Int.toNat_natCast, Nat.zero_add, Nat.add_zero, Nat.mul_one, Nat.one_mul, Bool.not_true, Bool.not_false, ne_eq, not_true_eq_false, not_false_eq_true, Bool.false_eq_true, hlt, q1, q4]
    refine ⟨rfl, fun c hc => ?_⟩
    have hf' : ∀ o, Fr [] h (h'.set c o) := fun o => f.set' (f.free hc)
    have hgoal1 : badLay (x1, x2) = true → ∀ o, K (.tup [.nilp, .int .i64 1]) (h'.set c o) := fun hb o => by
      have : L.any badLay = true := List.any_eq_true.2 ⟨_, hmem, hb⟩
      rw [e0, this] at hbad; exact hbad (by decide) _ (hf' o)
    have hnext : badLay (x1, x2) = false → ∀ y ∈ L.take (i + 1), badLay y = false := fun hb y hy => by
      rw [List.take_add_one, hx] at hy
      rcases List.mem_append.1 hy with hy | hy
      · exact hall y hy
      · simp at hy; subst hy; exact hb
    have hw : leaves [AV.int .i64 x1, AV.int .i64 x2] = true := rfl
    simp only [go_sem, reduceIte, Nat.reduceAdd, Nat.reduceSub, Nat.reduceMul, Nat.reducePow, Nat.reduceLT, Nat.reduceLeDiff, Nat.reduceEqDiff, Int.reduceAdd, Int.reduceSub, Int.reduceMul, Int.reduceNeg, Int.reducePow, Int.reduceLT, Int.reduceLE, Int.reduceEq, Int.reduceNe, Int.reduceToNat, Int.toNat_natCast, Nat.zero_add, Nat.add_zero, Nat.mul_one, Nat.one_mul, Bool.not_true, Bool.not_false, ne_eq, not_true_eq_false, not_false_eq_true, Bool.false_eq_true, AV.cells, stA_p, agg_write hw, cell_same]
    rw [badLay_t] at hgoal1
    rw [badLay_f] at hnext
    by_cases a1 : x1 < 1
    · simp only [go_sem, reduceIte, Nat.reduceAdd, Nat.reduceSub, Nat.reduceMul, Nat.reducePow, Nat.reduceLT, Nat.reduceLeDiff, Nat.reduceEqDiff, Int.reduceAdd, Int.reduceSub, Int.reduceMul, Int.reduceNeg, Int.reducePow, Int.reduceLT, Int.reduceLE, Int.reduceEq, Int.reduceNe, Int.reduceToNat, Int.toNat_natCast, Nat.zero_add, Nat.add_zero, Nat.mul_one, Nat.one_mul, Bool.not_true, Bool.not_false, ne_eq, not_true_eq_false, not_false_eq_true, Bool.false_eq_true, a1]; exact hgoal1 (by omega) _
    · by_cases a3 : 3 < x1
      · simp only [go_sem, reduceIte, Nat.reduceAdd, Nat.reduceSub, Nat.reduceMul, Nat.reducePow, Nat.reduceLT, Nat.reduceLeDiff, Nat.reduceEqDiff, Int.reduceAdd, Int.reduceSub, Int.reduceMul, Int.reduceNeg, Int.reducePow, Int.reduceLT, Int.reduceLE, Int.reduceEq, Int.reduceNe, Int.reduceToNat, Int.toNat_natCast, Nat.zero_add, Nat.add_zero, Nat.mul_one, Nat.one_mul, Bool.not_true, Bool.not_false, ne_eq, not_true_eq_false, not_false_eq_true, Bool.false_eq_true, a1, a3]; exact hgoal1 (by omega) _
      · by_cases a4 : x2 < 0
        · simp only [go_sem, reduceIte, Nat.reduceAdd, Nat.reduceSub, Nat.reduceMul, Nat.reducePow, Nat.reduceLT, Nat.reduceLeDiff, Nat.reduceEqDiff, Int.reduceAdd, Int.reduceSub, Int.reduceMul, Int.reduceNeg, Int.reducePow, Int.reduceLT, Int.reduceLE, Int.reduceEq, Int.reduceNe, Int.reduceToNat, Int.toNat_natCast, Nat.zero_add, Nat.add_zero, Nat.mul_one, Nat.one_mul, Bool.not_true, Bool.not_false, ne_eq, not_true_eq_false, not_false_eq_true, Bool.false_eq_true, a1, a3, a4]; exact hgoal1 (by omega) _
        · by_cases a5 : 65536 < x2
          · simp only [go_sem, reduceIte, Nat.reduceAdd, Nat.reduceSub, Nat.reduceMul, Nat.reducePow, Nat.reduceLT, Nat.reduceLeDiff, Nat.reduceEqDiff, Int.reduceAdd, Int.reduceSub, Int.reduceMul, Int.reduceNeg, Int.reducePow, Int.reduceLT, Int.reduceLE, Int.reduceEq, Int.reduceNe, Int.reduceToNat, Int.toNat_natCast, Nat.zero_add, Nat.add_zero, Nat.mul_one, Nat.one_mul, Bool.not_true, Bool.not_false, ne_eq, not_true_eq_false, not_false_eq_true, Bool.false_eq_true, a1, a3, a4, a5]; exact hgoal1 (by omega) _
          · simp only [go_sem, reduceIte, Nat.reduceAdd, Nat.reduceSub, Nat.reduceMul, Nat.reducePow, Nat.reduceLT, Nat.reduceLeDiff, Nat.reduceEqDiff, Int.reduceAdd, Int.reduceSub, Int.reduceMul, Int.reduceNeg, Int.reducePow, Int.reduceLT, Int.reduceLE, Int.reduceEq, Int.reduceNe, Int.reduceToNat, Int.toNat_natCast, Nat.zero_add, Nat.add_zero, Nat.mul_one, Nat.one_mul, Bool.not_true, Bool.not_false, ne_eq, not_true_eq_false, not_false_eq_true, Bool.false_eq_true, a1, a3, a4, a5, e2]
            exact ⟨L.length - (i + 1), by omega, i + 1, rfl, by omega, hf' _, hnext (by omega), rfl⟩
  · simp only [go_sem, reduceIte, Nat.reduceAdd, Nat.reduceSub, Nat.reduceMul, Nat.reducePow, Nat.reduceLT, Nat.reduceLeDiff, Nat.reduceEqDiff, Int.reduceAdd, Int.reduceSub, Int.reduceMul, Int.reduceNeg, Int.reducePow, Int.reduceLT, Int.reduceLE, Int.reduceEq, Int.reduceNe, Int.reduceToNat, Int.toNat_natCast, Nat.zero_add, Nat.add_zero, Nat.mul_one, Nat.one_mul, Bool.not_true, Bool.not_false, ne_eq, not_true_eq_false, not_false_eq_true, Bool.false_eq_true, hlt]
    have : i = L.length := by omega
    subst this
    rw [List.take_length] at hall
    exact hJ h' f (by rw [Bool.eq_false_iff]; intro q; obtain ⟨x, hx, hb⟩ := List.any_eq_true.1 q; rw [hall x hx] at hb; cases hb)
end
end Go.Proofs.Ytljkkfcokpimkaa.X
set_option linter.unusedVariables false
set_option linter.unusedSimpArgs false
set_option maxRecDepth 20000
namespace Go.Proofs.Ytljkkfcokpimkaa.X
open Go Go.RowKit
def Hs.wd (s : Hs) (a : Int) : Int := s.words.getD a.toNat 0
def Hs.hb (s : Hs) (a : Int) : Int := s.heads.getD (a / 64).toNat 0
def Hs.isAt (s : Hs) (a : Int) : Bool := decide (0 ≤ a) && (decide (a < s.top) && decide (s.hb a / 2 ^ (a % 64).toNat % 2 = 1))
def shapeOf (w : Int) : Int := w / 2 % 1048576
def lenOf (w : Int) : Int := w / 2097152 % 1048576
def kindAt (lays : List (Int × Int)) (i : Int) : Int := (lays.getD i.toNat (0, 0)).1
def nAt (lays : List (Int × Int)) (i : Int) : Int := (lays.getD i.toNat (0, 0)).2
def needN (lays : List (Int × Int)) (shape n : Int) : Int × Int :=
  if shape < 0 ∨ (lays.length : Int) ≤ shape ∨ n < 0 then (0, 1)
  else if kindAt lays shape = 1 ∧ n ≠ nAt lays shape then (0, 1)
  else if 65536 < n then (0, 2)
  else if kindAt lays shape = 3 then (1 + (n + 7) / 8, 0)
  else (1 + n, 0)
def Hs.fits (s : Hs) (w : Int) : Bool := decide (w % 2 = 1) || s.isAt (w / 2)
def Hs.fit (s : Hs) : Prop := ∀ a, s.isAt a = true → shapeOf (s.wd a) < s.lays.length
theorem HeapAt.fr {h h' : H} {b bw bd : Nat} {B : List Nat} {s : Hs} (hh : HeapAt h b bw bd B s) {S : List Nat} (f : Fr S h h') (hs : ∀ c ∈ b :: bw :: bd :: B, c ∉ S) : HeapAt h' b bw bd B s := by
  obtain ⟨⟨lv, h1, h2⟩, h3, h4, h5⟩ := hh
  refine ⟨⟨lv, f _ _ (hs _ (by simp)) h1, ?_⟩, f _ _ (hs _ (by simp)) h3, f _ _ (hs _ (by simp)) h4, h5⟩
  rcases h2 with q | ⟨bl, q1, q2, q3⟩
  · exact .inl q
  · exact .inr ⟨bl, q1, q2, f _ _ (hs _ (by simp [q2])) q3⟩
theorem HeapAt.fr0 {h h' : H} {b bw bd : Nat} {B : List Nat} {s : Hs} (hh : HeapAt h b bw bd B s) (f : Fr [] h h') : HeapAt h' b bw bd B s := hh.fr f (by simp)
theorem HeapAt.alive {h : H} {b bw bd : Nat} {B : List Nat} {s : Hs} (hh : HeapAt h b bw bd B s) : Alive h (b :: bw :: bd :: B) := by
  obtain ⟨⟨lv, h1, h2⟩, h3, h4, h5⟩ := hh
  intro c hc
  simp only [List.mem_cons] at hc
  rcases hc with rfl | rfl | rfl | hc
  · rw [h1]; simp
  · rw [h3]; simp
  · rw [h4]; simp
  · rcases h2 with ⟨_, _, q⟩ | ⟨bl, q1, q2, q3⟩
    · rw [q] at hc; cases hc
    · rw [q2] at hc; simp at hc; subst hc; rw [q3]; simp
section
variable {h : H} {b bw bd : Nat} {B : List Nat} {s : Hs}
theorem HeapAt.cells (hh : HeapAt h b bw bd B s) : ∃ lv, (∀ off, h.cell b off = [AV.sl bw 0 s.words.length (.exact s.words.length), .sl bd 0 s.heads.length (.exact s.heads.length), lv, .int .i64 s.top][off]?) ∧ Row h lv s.lays.length 2 (lc s.lays) ∧ h.get b = some (.live [.sl bw 0 s.words.length (.exact s.words.length), .sl bd 0 s.heads.length (.exact s.heads.length), lv, .int .i64 s.top] 130 true) := by
  obtain ⟨lv, h1, h2⟩ := hh.st
  exact ⟨lv, fun off => cell_of h1 off, h2.row, h1⟩
theorem HeapAt.word (hh : HeapAt h b bw bd B s) {a : Int} (h0 : 0 ≤ a) (h1 : a < s.words.length) : h.cell bw a.toNat = some (.int .u64 (s.wd a)) := by
  rw [cell_of hh.wd, wc_get]
  unfold Hs.wd
  rw [List.getD_eq_getElem?_getD, List.getElem?_eq_getElem (by omega)]
  rfl
theorem HeapAt.head (hh : HeapAt h b bw bd B s) {a : Int} (h1 : (a / 64).toNat < s.heads.length) : h.cell bd (a / 64).toNat = some (.int .u64 (s.hb a)) := by
  rw [cell_of hh.hd, wc_get]
  unfold Hs.hb
  rw [List.getD_eq_getElem?_getD, List.getElem?_eq_getElem h1]
  rfl
theorem lay_get {L : List (Int × Int)} {i : Int} (h0 : 0 ≤ i) (h1 : i < L.length) : L[i.toNat]? = some (kindAt L i, nAt L i) := by
  unfold kindAt nAt
  rw [List.getD_eq_getElem?_getD, List.getElem?_eq_getElem (by omega)]
  rfl
theorem getD_range {l : List Int} (hl : ∀ w ∈ l, 0 ≤ w ∧ w < 18446744073709551616) (i : Nat) : 0 ≤ l.getD i 0 ∧ l.getD i 0 < 18446744073709551616 := by
  rw [List.getD_eq_getElem?_getD]
  cases hx : l[i]? with
  | none => simp
  | some x => exact hl x (List.mem_of_getElem? hx)
theorem Hs.good.wdr (g : s.good) (a : Int) : 0 ≤ s.wd a ∧ s.wd a < 18446744073709551616 := getD_range g.wrange _
theorem Hs.good.hbr (g : s.good) (a : Int) : 0 ≤ s.hb a ∧ s.hb a < 18446744073709551616 := getD_range g.hrange _
theorem div_pow_range {w : Int} (k : Nat) (h0 : 0 ≤ w) (h1 : w < 18446744073709551616) : 0 ≤ w / 2 ^ k ∧ w / 2 ^ k ≤ 18446744073709551615 :=
  ⟨Int.ediv_nonneg h0 (Int.pow_nonneg (by decide)), Int.le_trans (Int.ediv_le_self _ h0) (by omega)⟩
theorem size_c (hh : HeapAt h b bw bd B s) (K : AV → H → Prop) : C 58 [.ptr b 0] h K = K (.int .i64 s.words.length) h := by
  refine callA_eq (run58 ?_) K
  obtain ⟨lv, c, _⟩ := hh.cells
  simp only [sh58, go_sem, reduceIte, Nat.reduceAdd, Nat.reduceSub, Nat.reduceMul, Nat.reducePow, Nat.reduceLT, Nat.reduceLeDiff, Nat.reduceEqDiff, Int.reduceAdd, Int.reduceSub, Int.reduceMul, Int.reduceNeg, Int.reducePow, Int.reduceLT, Int.reduceLE, Int.reduceEq, Int.reduceNe, Int.reduceToNat, Int.toNat_natCast, Nat.zero_add, Nat.add_zero, Nat.mul_one, Nat.one_mul, Bool.not_true, Bool.not_false, ne_eq, not_true_eq_false, not_false_eq_true, Bool.false_eq_true, c]
theorem top_c (hh : HeapAt h b bw bd B s) (K : AV → H → Prop) : C 57 [.ptr b 0] h K = K (.int .i64 s.top) h := by
  refine callA_eq (run57 ?_) K
  obtain ⟨lv, c, _⟩ := hh.cells
  simp only [sh57, go_sem, reduceIte, Nat.reduceAdd, Nat.reduceSub, Nat.reduceMul, Nat.reducePow, Nat.reduceLT, Nat.reduceLeDiff, Nat.reduceEqDiff, Int.reduceAdd, Int.reduceSub, Int.reduceMul, Int.reduceNeg, Int.reducePow, Int.reduceLT, Int.reduceLE, Int.reduceEq, Int.reduceNe, Int.reduceToNat, Int.toNat_natCast, Nat.zero_add, Nat.add_zero, Nat.mul_one, Nat.one_mul, Bool.not_true, Bool.not_false, ne_eq, not_true_eq_false, not_false_eq_true, Bool.false_eq_true, c]
theorem is_c (hh : HeapAt h b bw bd B s) (g : s.good) (a : Int) (K : AV → H → Prop) : C 56 [.ptr b 0, .int .i64 a] h K = K (.bool (s.isAt a)) h := by
  refine callA_eq (run56 ?_) K
  obtain ⟨lv, c, _⟩ := hh.cells
  by_cases h0 : 0 ≤ a
  · by_cases h1 : a < s.top
    · have g1 := g.wlen; have g2 := g.hlen; have g3 := g.top
      have hl : (a / 64).toNat < s.heads.length := by omega
      have e1 : IntKind.i64.wrap (a.tdiv 64) = a / 64 := by rw [Int.tdiv_eq_ediv_of_nonneg h0, i64_id (by omega) (by omega)]
      have e2 : a.tmod 64 = a % 64 := Int.tmod_eq_emod_of_nonneg h0
      have i0 : 0 ≤ a / 64 := by omega
      have i1 : a / 64 < (s.heads.length : Int) := by omega
      have m0 : 0 ≤ a % 64 := by omega
      have m1 : a % 64 ≤ 64 := by omega
      have hr := g.hbr a
      have hq := div_pow_range (a % 64).toNat hr.1 hr.2
      have e3 : s.isAt a = decide (s.hb a / 2 ^ (a % 64).toNat % 2 = 1) := by unfold Hs.isAt; simp only [h0, h1, decide_true, Bool.true_and]
      simp only [sh56, go_sem, reduceIte, Nat.reduceAdd, Nat.reduceSub, Nat.reduceMul, Nat.reducePow, Nat.reduceLT, Nat.reduceLeDiff, Nat.reduceEqDiff, Int.reduceAdd, Int.reduceSub, Int.reduceMul, Int.reduceNeg, Int.reducePow, Int.reduceLT, Int.reduceLE, Int.reduceEq, Int.reduceNe, Int.reduceToNat, Int.toNat_natCast, Nat.zero_add, Nat.add_zero, Nat.mul_one, Nat.one_mul, Bool.not_true, Bool.not_false, ne_eq, not_true_eq_false, not_false_eq_true, Bool.false_eq_true, c, h0, h1, e1, e2, i0, i1, hh.head hl, b_shr_u64 m0 m1, and1 _ hq.1 hq.2, e3]
    · have e3 : s.isAt a = false := by unfold Hs.isAt; simp [h1]
      simp only [sh56, go_sem, reduceIte, Nat.reduceAdd, Nat.reduceSub, Nat.reduceMul, Nat.reducePow, Nat.reduceLT, Nat.reduceLeDiff, Nat.reduceEqDiff, Int.reduceAdd, Int.reduceSub, Int.reduceMul, Int.reduceNeg, Int.reducePow, Int.reduceLT, Int.reduceLE, Int.reduceEq, Int.reduceNe, Int.reduceToNat, Int.toNat_natCast, Nat.zero_add, Nat.add_zero, Nat.mul_one, Nat.one_mul, Bool.not_true, Bool.not_false, ne_eq, not_true_eq_false, not_false_eq_true, Bool.false_eq_true, c, h0, h1, e3]
  · have e3 : s.isAt a = false := by unfold Hs.isAt; simp [h0]
    simp only [sh56, go_sem, reduceIte, Nat.reduceAdd, Nat.reduceSub, Nat.reduceMul, Nat.reducePow, Nat.reduceLT, Nat.reduceLeDiff, Nat.reduceEqDiff, Int.reduceAdd, Int.reduceSub, Int.reduceMul, Int.reduceNeg, Int.reducePow, Int.reduceLT, Int.reduceLE, Int.reduceEq, Int.reduceNe, Int.reduceToNat, Int.toNat_natCast, Nat.zero_add, Nat.add_zero, Nat.mul_one, Nat.one_mul, Bool.not_true, Bool.not_false, ne_eq, not_true_eq_false, not_false_eq_true, Bool.false_eq_true, c, h0, e3]
theorem fits_c (hh : HeapAt h b bw bd B s) (g : s.good) {w : Int} (w0 : 0 ≤ w) (w1 : w < 18446744073709551616) (K : AV → H → Prop) : C 68 [.ptr b 0, .int .u64 w] h K = K (.bool (s.fits w)) h := by
  refine callA_eq (run68 ?_) K
  by_cases h0 : w % 2 = 1
  · have e : s.fits w = true := by simp [Hs.fits, h0]
    simp only [sh68, go_sem, reduceIte, Nat.reduceAdd, Nat.reduceSub, Nat.reduceMul, Nat.reducePow, Nat.reduceLT, Nat.reduceLeDiff, Nat.reduceEqDiff, Int.reduceAdd, Int.reduceSub, Int.reduceMul, Int.reduceNeg, Int.reducePow, Int.reduceLT, Int.reduceLE, Int.reduceEq, Int.reduceNe, Int.reduceToNat, Int.toNat_natCast, Nat.zero_add, Nat.add_zero, Nat.mul_one, Nat.one_mul, Bool.not_true, Bool.not_false, ne_eq, not_true_eq_false, not_false_eq_true, Bool.false_eq_true, isImm_c w0 w1, h0, e]
  · have e : s.fits w = s.isAt (w / 2) := by simp [Hs.fits, h0]
    simp only [sh68, go_sem, reduceIte, Nat.reduceAdd, Nat.reduceSub, Nat.reduceMul, Nat.reducePow, Nat.reduceLT, Nat.reduceLeDiff, Nat.reduceEqDiff, Int.reduceAdd, Int.reduceSub, Int.reduceMul, Int.reduceNeg, Int.reducePow, Int.reduceLT, Int.reduceLE, Int.reduceEq, Int.reduceNe, Int.reduceToNat, Int.toNat_natCast, Nat.zero_add, Nat.add_zero, Nat.mul_one, Nat.one_mul, Bool.not_true, Bool.not_false, ne_eq, not_true_eq_false, not_false_eq_true, Bool.false_eq_true, isImm_c w0 w1, h0, at_c w0 w1, is_c hh g, e]
theorem kind_c (hh : HeapAt h b bw bd B s) (i : Int) (K : AV → H → Prop) : C 54 [.ptr b 0, .int .i64 i] h K = K (.int .i64 (if i < 0 ∨ (s.lays.length : Int) ≤ i then 0 else kindAt s.lays i)) h := by
  refine callA_eq (run54 ?_) K
  obtain ⟨lv, c, r, _⟩ := hh.cells
  by_cases h0 : i < 0
  · simp only [sh54, go_sem, reduceIte, Nat.reduceAdd, Nat.reduceSub, Nat.reduceMul, Nat.reducePow, Nat.reduceLT, Nat.reduceLeDiff, Nat.reduceEqDiff, Int.reduceAdd, Int.reduceSub, Int.reduceMul, Int.reduceNeg, Int.reducePow, Int.reduceLT, Int.reduceLE, Int.reduceEq, Int.reduceNe, Int.reduceToNat, Int.toNat_natCast, Nat.zero_add, Nat.add_zero, Nat.mul_one, Nat.one_mul, Bool.not_true, Bool.not_false, ne_eq, not_true_eq_false, not_false_eq_true, Bool.false_eq_true, c, h0, true_or]
  · by_cases h1 : (s.lays.length : Int) ≤ i
    · simp only [sh54, go_sem, reduceIte, Nat.reduceAdd, Nat.reduceSub, Nat.reduceMul, Nat.reducePow, Nat.reduceLT, Nat.reduceLeDiff, Nat.reduceEqDiff, Int.reduceAdd, Int.reduceSub, Int.reduceMul, Int.reduceNeg, Int.reducePow, Int.reduceLT, Int.reduceLE, Int.reduceEq, Int.reduceNe, Int.reduceToNat, Int.toNat_natCast, Nat.zero_add, Nat.add_zero, Nat.mul_one, Nat.one_mul, Bool.not_true, Bool.not_false, ne_eq, not_true_eq_false, not_false_eq_true, Bool.false_eq_true, c, h0, h1, r.len, or_true]
    · have hi : ((i.toNat : Nat) : Int) = i := by omega
      obtain ⟨bl, o, q1, q2, q3, q4⟩ := r.lay (lay_get (L := s.lays) (i := i) (by omega) (by omega))
      rw [hi] at q1
      have hor : ¬ (i < 0 ∨ (s.lays.length : Int) ≤ i) := by omega
      simp only [sh54, go_sem, reduceIte, Nat.reduceAdd, Nat.reduceSub, Nat.reduceMul, Nat.reducePow, Nat.reduceLT, Nat.reduceLeDiff, Nat.reduceEqDiff, Int.reduceAdd, Int.reduceSub, Int.reduceMul, Int.reduceNeg, Int.reducePow, Int.reduceLT, Int.reduceLE, Int.reduceEq, Int.reduceNe, Int.reduceToNat, Int.toNat_natCast, Nat.zero_add, Nat.add_zero, Nat.mul_one, Nat.one_mul, Bool.not_true, Bool.not_false, ne_eq, not_true_eq_false, not_false_eq_true, Bool.false_eq_true, c, h0, h1, r.len, q1, q2, or_self]
theorem load_c (hh : HeapAt h b bw bd B s) (i : Int) (K : AV → H → Prop) : C 62 [.ptr b 0, .int .i64 i] h K = K (.int .u64 (if i < 0 ∨ (s.words.length : Int) ≤ i then 0 else s.wd i)) h := by
  refine callA_eq (run62 ?_) K
  obtain ⟨lv, c, r, _⟩ := hh.cells
  by_cases h0 : i < 0
  · simp only [sh62, go_sem, reduceIte, Nat.reduceAdd, Nat.reduceSub, Nat.reduceMul, Nat.reducePow, Nat.reduceLT, Nat.reduceLeDiff, Nat.reduceEqDiff, Int.reduceAdd, Int.reduceSub, Int.reduceMul, Int.reduceNeg, Int.reducePow, Int.reduceLT, Int.reduceLE, Int.reduceEq, Int.reduceNe, Int.reduceToNat, Int.toNat_natCast, Nat.zero_add, Nat.add_zero, Nat.mul_one, Nat.one_mul, Bool.not_true, Bool.not_false, ne_eq, not_true_eq_false, not_false_eq_true, Bool.false_eq_true, c, h0, true_or]
  · by_cases h1 : (s.words.length : Int) ≤ i
    · simp only [sh62, go_sem, reduceIte, Nat.reduceAdd, Nat.reduceSub, Nat.reduceMul, Nat.reducePow, Nat.reduceLT, Nat.reduceLeDiff, Nat.reduceEqDiff, Int.reduceAdd, Int.reduceSub, Int.reduceMul, Int.reduceNeg, Int.reducePow, Int.reduceLT, Int.reduceLE, Int.reduceEq, Int.reduceNe, Int.reduceToNat, Int.toNat_natCast, Nat.zero_add, Nat.add_zero, Nat.mul_one, Nat.one_mul, Bool.not_true, Bool.not_false, ne_eq, not_true_eq_false, not_false_eq_true, Bool.false_eq_true, c, h0, h1, size_c hh, or_true]
    · have i0 : 0 ≤ i := by omega
      have i1 : i < (s.words.length : Int) := by omega
      simp only [sh62, go_sem, reduceIte, Nat.reduceAdd, Nat.reduceSub, Nat.reduceMul, Nat.reducePow, Nat.reduceLT, Nat.reduceLeDiff, Nat.reduceEqDiff, Int.reduceAdd, Int.reduceSub, Int.reduceMul, Int.reduceNeg, Int.reducePow, Int.reduceLT, Int.reduceLE, Int.reduceEq, Int.reduceNe, Int.reduceToNat, Int.toNat_natCast, Nat.zero_add, Nat.add_zero, Nat.mul_one, Nat.one_mul, Bool.not_true, Bool.not_false, ne_eq, not_true_eq_false, not_false_eq_true, Bool.false_eq_true, c, h0, h1, size_c hh, i0, i1, hh.word i0 i1, or_self]
def Hs.put (s : Hs) (a : Int) (w : Int) : Hs := { s with words := s.words.set a.toNat w }
theorem HeapAt.put (hh : HeapAt h b bw bd B s) (a w : Int) : HeapAt (h.set bw (.live (wc (s.put a w).words) 25 true)) b bw bd B (s.put a w) := by
  obtain ⟨⟨lv, h1, h2⟩, h3, h4, h5⟩ := hh
  refine ⟨⟨lv, ?_, ?_⟩, H.get_same .., ?_, h5⟩
  · rw [H.get_other _ _ h5.1, h1]; simp [Hs.put]
  · rcases h2 with q | ⟨bl, q1, q2, q3⟩
    · exact .inl q
    · exact .inr ⟨bl, q1, q2, by rw [H.get_other _ _ (fun e => h5.2.2.2.2.1 (by rw [q2, e]; simp))]; exact q3⟩
  · rw [H.get_other _ _ (fun e => h5.2.2.1 e.symm), h4]; rfl
theorem HeapAt.st_word (hh : HeapAt h b bw bd B s) {a w : Int} (h0 : 0 ≤ a) (h1 : a < s.words.length) : stA h 1 (.ptr bw a.toNat) (.int .u64 w) = some (h.set bw (.live (wc (s.put a w).words) 25 true)) := by
  rw [st_one hh.wd (by rw [wc_length]; omega), wc_set]; rfl
theorem store_c (hh : HeapAt h b bw bd B s) (i w : Int) (K : AV → H → Prop) : C 78 [.ptr b 0, .int .i64 i, .int .u64 w] h K = K (.tup []) (if 0 ≤ i ∧ i < s.words.length then h.set bw (.live (wc (s.put i w).words) 25 true) else h) := by
  refine callA_eq (run78 ?_) K
  obtain ⟨lv, c, r, _⟩ := hh.cells
  by_cases h0 : 0 ≤ i
  · by_cases h1 : i < (s.words.length : Int)
    · simp only [sh78, go_sem, reduceIte, Nat.reduceAdd, Nat.reduceSub, Nat.reduceMul, Nat.reducePow, Nat.reduceLT, Nat.reduceLeDiff, Nat.reduceEqDiff, Int.reduceAdd, Int.reduceSub, Int.reduceMul, Int.reduceNeg, Int.reducePow, Int.reduceLT, Int.reduceLE, Int.reduceEq, Int.reduceNe, Int.reduceToNat, Int.toNat_natCast, Nat.zero_add, Nat.add_zero, Nat.mul_one, Nat.one_mul, Bool.not_true, Bool.not_false, ne_eq, not_true_eq_false, not_false_eq_true, Bool.false_eq_true, c, h0, h1, size_c hh, hh.st_word h0 h1, and_self]
    · simp only [sh78, go_sem, reduceIte, Nat.reduceAdd, Nat.reduceSub, Nat.reduceMul, Nat.reducePow, Nat.reduceLT, Nat.reduceLeDiff, Nat.reduceEqDiff, Int.reduceAdd, Int.reduceSub, Int.reduceMul, Int.reduceNeg, Int.reducePow, Int.reduceLT, Int.reduceLE, Int.reduceEq, Int.reduceNe, Int.reduceToNat, Int.toNat_natCast, Nat.zero_add, Nat.add_zero, Nat.mul_one, Nat.one_mul, Bool.not_true, Bool.not_false, ne_eq, not_true_eq_false, not_false_eq_true, Bool.false_eq_true, c, h0, h1, size_c hh, and_false]
  · simp only [sh78, go_sem, reduceIte, Nat.reduceAdd, Nat.reduceSub, Nat.reduceMul, Nat.reducePow, Nat.reduceLT, Nat.reduceLeDiff, Nat.reduceEqDiff, Int.reduceAdd, Int.reduceSub, Int.reduceMul, Int.reduceNeg, Int.reducePow, Int.reduceLT, Int.reduceLE, Int.reduceEq, Int.reduceNe, Int.reduceToNat, Int.toNat_natCast, Nat.zero_add, Nat.add_zero, Nat.mul_one, Nat.one_mul, Bool.not_true, Bool.not_false, ne_eq, not_true_eq_false, not_false_eq_true, Bool.false_eq_true, c, h0, false_and]
theorem need_c (hh : HeapAt h b bw bd B s) (g : s.good) (i n : Int) {K : AV → H → Prop} (hK : ∀ h', Fr [] h h' → K (.tup [.int .i64 (needN s.lays i n).1, .int .i64 (needN s.lays i n).2]) h') : C 52 [.ptr b 0, .int .i64 i, .int .i64 n] h K := by
  refine run52 ?_
  obtain ⟨lv, c, r, _⟩ := hh.cells
  have triv := fun (e : needN s.lays i n = (0, 1)) => by have := hK h (Fr.refl _ _); rw [e] at this; exact this
  by_cases h0 : i < 0
  · have e : needN s.lays i n = (0, 1) := by unfold needN; rw [if_pos (.inl h0)]
    simp only [sh52, go_sem, reduceIte, Nat.reduceAdd, Nat.reduceSub, Nat.reduceMul, Nat.reducePow, Nat.reduceLT, Nat.reduceLeDiff, Nat.reduceEqDiff, Int.reduceAdd, Int.reduceSub, Int.reduceMul, Int.reduceNeg, Int.reducePow, Int.reduceLT, Int.reduceLE, Int.reduceEq, Int.reduceNe, Int.reduceToNat, Int.toNat_natCast, Nat.zero_add, Nat.add_zero, Nat.mul_one, Nat.one_mul, Bool.not_true, Bool.not_false, ne_eq, not_true_eq_false, not_false_eq_true, Bool.false_eq_true, c, h0]
    exact triv e
  by_cases h1 : (s.lays.length : Int) ≤ i
  · have e : needN s.lays i n = (0, 1) := by unfold needN; rw [if_pos (.inr (.inl h1))]
    simp only [sh52, go_sem, reduceIte, Nat.reduceAdd, Nat.reduceSub, Nat.reduceMul, Nat.reducePow, Nat.reduceLT, Nat.reduceLeDiff, Nat.reduceEqDiff, Int.reduceAdd, Int.reduceSub, Int.reduceMul, Int.reduceNeg, Int.reducePow, Int.reduceLT, Int.reduceLE, Int.reduceEq, Int.reduceNe, Int.reduceToNat, Int.toNat_natCast, Nat.zero_add, Nat.add_zero, Nat.mul_one, Nat.one_mul, Bool.not_true, Bool.not_false, ne_eq, not_true_eq_false, not_false_eq_true, Bool.false_eq_true, c, h0, h1, r.len]
    exact triv e
  by_cases h2 : n < 0
  · have e : needN s.lays i n = (0, 1) := by unfold needN; rw [if_pos (.inr (.inr h2))]
    simp only [sh52, go_sem, reduceIte, Nat.reduceAdd, Nat.reduceSub, Nat.reduceMul, Nat.reducePow, Nat.reduceLT, Nat.reduceLeDiff, Nat.reduceEqDiff, Int.reduceAdd, Int.reduceSub, Int.reduceMul, Int.reduceNeg, Int.reducePow, Int.reduceLT, Int.reduceLE, Int.reduceEq, Int.reduceNe, Int.reduceToNat, Int.toNat_natCast, Nat.zero_add, Nat.add_zero, Nat.mul_one, Nat.one_mul, Bool.not_true, Bool.not_false, ne_eq, not_true_eq_false, not_false_eq_true, Bool.false_eq_true, c, h0, h1, h2, r.len]
    exact triv e
  have e0 : needN s.lays i n = if kindAt s.lays i = 1 ∧ n ≠ nAt s.lays i then (0, 1) else if 65536 < n then (0, 2) else if kindAt s.lays i = 3 then (1 + (n + 7) / 8, 0) else (1 + n, 0) := by
    unfold needN; rw [if_neg (by omega)]
  have hi : ((i.toNat : Nat) : Int) = i := by omega
  obtain ⟨bl, o, q1, q2, q3, q4⟩ := r.lay (lay_get (L := s.lays) (i := i) (by omega) (by omega))
  rw [hi] at q1
  simp only [sh52, go_sem, reduceIte, Nat.reduceAdd, Nat.reduceSub, Nat.reduceMul, Nat.reducePow, Nat.reduceLT, Nat.reduceLeDiff, Nat.reduceEqDiff, Int.reduceAdd, Int.reduceSub, Int.reduceMul, Int.reduceNeg, Int.reducePow, Int.reduceLT, Int.reduceLE, Int.reduceEq, Int.reduceNe, Int.reduceToNat, Int.toNat_natCast, Nat.zero_add, Nat.add_zero, Nat.mul_one, Nat.one_mul, Bool.not_true, Bool.not_false, ne_eq, not_true_eq_false, not_false_eq_true, Bool.false_eq_true, c, h0, h1, h2, r.len, q1, q4]
  refine ⟨rfl, fun x hx => ?_⟩
  have hf : ∀ o, Fr [] h (h.set x o) := fun o => Fr.new hx
  have hw : leaves [AV.int .i64 (kindAt s.lays i), AV.int .i64 (nAt s.lays i)] = true := rfl
  simp only [go_sem, reduceIte, Nat.reduceAdd, Nat.reduceSub, Nat.reduceMul, Nat.reducePow, Nat.reduceLT, Nat.reduceLeDiff, Nat.reduceEqDiff, Int.reduceAdd, Int.reduceSub, Int.reduceMul, Int.reduceNeg, Int.reducePow, Int.reduceLT, Int.reduceLE, Int.reduceEq, Int.reduceNe, Int.reduceToNat, Int.toNat_natCast, Nat.zero_add, Nat.add_zero, Nat.mul_one, Nat.one_mul, Bool.not_true, Bool.not_false, ne_eq, not_true_eq_false, not_false_eq_true, Bool.false_eq_true, AV.cells, stA_p, agg_write hw, cell_same]
  generalize kindAt s.lays i = k at *
  generalize nAt s.lays i = m at *
  by_cases k1 : k = 1
  · subst k1
    by_cases k2 : n = m
    · have k2' : ¬ (n ≠ m) := fun q => q k2
      by_cases k3 : 65536 < n
      · rw [e0, if_neg (by omega), if_pos k3] at hK
        subst k2
        simp only [go_sem, reduceIte, Nat.reduceAdd, Nat.reduceSub, Nat.reduceMul, Nat.reducePow, Nat.reduceLT, Nat.reduceLeDiff, Nat.reduceEqDiff, Int.reduceAdd, Int.reduceSub, Int.reduceMul, Int.reduceNeg, Int.reducePow, Int.reduceLT, Int.reduceLE, Int.reduceEq, Int.reduceNe, Int.reduceToNat, Int.toNat_natCast, Nat.zero_add, Nat.add_zero, Nat.mul_one, Nat.one_mul, Bool.not_true, Bool.not_false, ne_eq, not_true_eq_false, not_false_eq_true, Bool.false_eq_true, k3]
        exact hK _ (hf _)
      · rw [e0, if_neg (by omega), if_neg k3, if_neg (by decide)] at hK
        have e1 : IntKind.i64.wrap (1 + n) = 1 + n := i64_id (by omega) (by omega)
        subst k2
        simp only [go_sem, reduceIte, Nat.reduceAdd, Nat.reduceSub, Nat.reduceMul, Nat.reducePow, Nat.reduceLT, Nat.reduceLeDiff, Nat.reduceEqDiff, Int.reduceAdd, Int.reduceSub, Int.reduceMul, Int.reduceNeg, Int.reducePow, Int.reduceLT, Int.reduceLE, Int.reduceEq, Int.reduceNe, Int.reduceToNat, Int.toNat_natCast, Nat.zero_add, Nat.add_zero, Nat.mul_one, Nat.one_mul, Bool.not_true, Bool.not_false, ne_eq, not_true_eq_false, not_false_eq_true, Bool.false_eq_true, k3, e1]
        exact hK _ (hf _)
    · rw [e0, if_pos ⟨rfl, k2⟩] at hK
      simp only [go_sem, reduceIte, Nat.reduceAdd, Nat.reduceSub, Nat.reduceMul, Nat.reducePow, Nat.reduceLT, Nat.reduceLeDiff, Nat.reduceEqDiff, Int.reduceAdd, Int.reduceSub, Int.reduceMul, Int.reduceNeg, Int.reducePow, Int.reduceLT, Int.reduceLE, Int.reduceEq, Int.reduceNe, Int.reduceToNat, Int.toNat_natCast, Nat.zero_add, Nat.add_zero, Nat.mul_one, Nat.one_mul, Bool.not_true, Bool.not_false, ne_eq, not_true_eq_false, not_false_eq_true, Bool.false_eq_true, k2]
      exact hK _ (hf _)
  · have e1 : ¬ (k = 1 ∧ n ≠ m) := fun q => k1 q.1
    by_cases k3 : 65536 < n
    · rw [e0, if_neg e1, if_pos k3] at hK
      simp only [go_sem, reduceIte, Nat.reduceAdd, Nat.reduceSub, Nat.reduceMul, Nat.reducePow, Nat.reduceLT, Nat.reduceLeDiff, Nat.reduceEqDiff, Int.reduceAdd, Int.reduceSub, Int.reduceMul, Int.reduceNeg, Int.reducePow, Int.reduceLT, Int.reduceLE, Int.reduceEq, Int.reduceNe, Int.reduceToNat, Int.toNat_natCast, Nat.zero_add, Nat.add_zero, Nat.mul_one, Nat.one_mul, Bool.not_true, Bool.not_false, ne_eq, not_true_eq_false, not_false_eq_true, Bool.false_eq_true, k1, k3]
      exact hK _ (hf _)
    · by_cases k4 : k = 3
      · subst k4
        rw [e0, if_neg e1, if_neg k3, if_pos rfl] at hK
        have e2 : IntKind.i64.wrap (n + 7) = n + 7 := i64_id (by omega) (by omega)
        have e3 : IntKind.i64.wrap ((n + 7).tdiv 8) = (n + 7) / 8 := by rw [Int.tdiv_eq_ediv_of_nonneg (by omega), i64_id (by omega) (by omega)]
        have e4 : IntKind.i64.wrap (1 + (n + 7) / 8) = 1 + (n + 7) / 8 := i64_id (by omega) (by omega)
        simp only [go_sem, reduceIte, Nat.reduceAdd, Nat.reduceSub, Nat.reduceMul, Nat.reducePow, Nat.reduceLT, Nat.reduceLeDiff, Nat.reduceEqDiff, Int.reduceAdd, Int.reduceSub, Int.reduceMul, Int.reduceNeg, Int.reducePow, Int.reduceLT, Int.reduceLE, Int.reduceEq, Int.reduceNe, Int.reduceToNat, Int.toNat_natCast, Nat.zero_add, Nat.add_zero, Nat.mul_one, Nat.one_mul, Bool.not_true, Bool.not_false, ne_eq, not_true_eq_false, not_false_eq_true, Bool.false_eq_true, k3, e2, e3, e4]
        exact hK _ (hf _)
      · rw [e0, if_neg e1, if_neg k3, if_neg k4] at hK
        have e2 : IntKind.i64.wrap (1 + n) = 1 + n := i64_id (by omega) (by omega)
        simp only [go_sem, reduceIte, Nat.reduceAdd, Nat.reduceSub, Nat.reduceMul, Nat.reducePow, Nat.reduceLT, Nat.reduceLeDiff, Nat.reduceEqDiff, Int.reduceAdd, Int.reduceSub, Int.reduceMul, Int.reduceNeg, Int.reducePow, Int.reduceLT, Int.reduceLE, Int.reduceEq, Int.reduceNe, Int.reduceToNat, Int.toNat_natCast, Nat.zero_add, Nat.add_zero, Nat.mul_one, Nat.one_mul, Bool.not_true, Bool.not_false, ne_eq, not_true_eq_false, not_false_eq_true, Bool.false_eq_true, k1, k3, k4, e2]
        exact hK _ (hf _)
end
end Go.Proofs.Ytljkkfcokpimkaa.X
set_option linter.unusedVariables false
set_option linter.unusedSimpArgs false
set_option maxRecDepth 20000
namespace Go.Proofs.Ytljkkfcokpimkaa.X
open Go Go.RowKit
def fillW (l : List Int) (a : Nat) : Nat → List Int
  | 0 => l
  | n + 1 => (fillW l a n).set (a + n) 1
theorem fillW_length (l : List Int) (a : Nat) : ∀ n, (fillW l a n).length = l.length
  | 0 => rfl
  | n + 1 => by rw [fillW, List.length_set, fillW_length l a n]
theorem fillW_range {l : List Int} (hl : ∀ w ∈ l, 0 ≤ w ∧ w < 18446744073709551616) (a : Nat) : ∀ n, ∀ w ∈ fillW l a n, 0 ≤ w ∧ w < 18446744073709551616
  | 0 => hl
  | n + 1 => fun w hw => by
    rcases List.mem_or_eq_of_mem_set hw with hw | rfl
    · exact fillW_range hl a n w hw
    · decide
def orBit (w : Int) (k : Nat) : Int := if w / 2 ^ k % 2 = 1 then w else w + 2 ^ k
def Hs.mark (s : Hs) (a : Nat) : Hs := { s with heads := s.heads.set (a / 64) (orBit (s.heads.getD (a / 64) 0) (a % 64)) }
def Hs.alloc (s : Hs) (shape n : Int) (k : Int) : Hs :=
  { ({ s with words := (if kindAt s.lays shape = 3 then s.words.set s.top (headN shape n) else fillW (s.words.set s.top (headN shape n)) (s.top + 1) n.toNat) } : Hs).mark s.top with top := s.top + k.toNat }
theorem or_bit {w : Int} {k : Nat} (h0 : 0 ≤ w) (h1 : w < 18446744073709551616) (hk : k < 64) : bits .or .u64 w (2 ^ k) = orBit w k := by
  unfold orBit
  obtain ⟨n, rfl⟩ := Int.eq_ofNat_of_zero_le h0
  split
  · rename_i hb
    have e1 : (n / 2 ^ k) % 2 = 1 := by exact_mod_cast hb
    have ht : n.testBit k = true := by rw [Nat.testBit_eq_decide_div_mod_eq]; simp [e1]
    have hp : (2 : Nat) ^ k < 2 ^ 64 := Nat.pow_lt_pow_right (by decide) hk
    have := (bits_nat .u64 64 (by decide) wraps_u64 n (2 ^ k) (by omega) hp).2
    have e2 : ((2 ^ k : Nat) : Int) = 2 ^ k := by push_cast; rfl
    rw [e2] at this
    rw [this]
    congr 1
    apply Nat.eq_of_testBit_eq
    intro i
    rw [Nat.testBit_or, Nat.testBit_two_pow]
    by_cases hi : k = i
    · subst hi; simp [ht]
    · simp [hi]
  · rename_i hb
    have := lay k 1 (by omega) (n : Int) 1 (by omega) (by omega) (by decide) (by decide) (by
      have : (n : Int) / 2 ^ k % 2 = 0 := by omega
      simpa using this)
    simpa using this
theorem orBit_range {w : Int} {k : Nat} (h0 : 0 ≤ w) (h1 : w < 18446744073709551616) (hk : k < 64) : 0 ≤ orBit w k ∧ orBit w k < 18446744073709551616 := by
  have e := or_bit h0 h1 hk
  rw [← e]
  show 0 ≤ IntKind.u64.wrap _ ∧ IntKind.u64.wrap _ < _
  rw [u64_wrap]
  omega
theorem pow_wrap {k : Nat} (hk : k < 64) : IntKind.u64.wrap (1 * 2 ^ k) = 2 ^ k := by
  have h1 : (2 : Int) ^ k < 2 ^ 64 := by exact_mod_cast Nat.pow_lt_pow_right (by decide) hk
  have h2 : (0 : Int) ≤ 2 ^ k := Int.pow_nonneg (by decide)
  rw [Int.one_mul, u64_id h2 (by simp only [Int.reducePow] at h1; exact h1)]
section
variable {h : H} {b bw bd : Nat} {B : List Nat} {s : Hs}
theorem HeapAt.mark (hh : HeapAt h b bw bd B s) (a : Nat) : HeapAt (h.set bd (.live (wc (s.mark a).heads) 25 true)) b bw bd B (s.mark a) := by
  obtain ⟨⟨lv, h1, h2⟩, h3, h4, h5⟩ := hh
  refine ⟨⟨lv, ?_, ?_⟩, ?_, H.get_same .., h5⟩
  · rw [H.get_other _ _ h5.2.1, h1]; simp [Hs.mark]
  · rcases h2 with q | ⟨bl, q1, q2, q3⟩
    · exact .inl q
    · exact .inr ⟨bl, q1, q2, by rw [H.get_other _ _ (fun e => h5.2.2.2.2.2 (by rw [q2, e]; simp))]; exact q3⟩
  · rw [H.get_other _ _ h5.2.2.1, h3]; rfl
theorem HeapAt.up (hh : HeapAt h b bw bd B s) (t : Nat) : ∃ cs, h.get b = some (.live cs 130 true) ∧ 3 < cs.length ∧ HeapAt (h.set b (.live (cs.set 3 (.int .i64 t)) 130 true)) b bw bd B { s with top := t } := by
  obtain ⟨⟨lv, h1, h2⟩, h3, h4, h5⟩ := hh
  refine ⟨_, h1, by simp, ⟨lv, ?_, ?_⟩, ?_, ?_, h5⟩
  · rw [H.get_same]; rfl
  · rcases h2 with q | ⟨bl, q1, q2, q3⟩
    · exact .inl q
    · exact .inr ⟨bl, q1, q2, by rw [H.get_other _ _ (fun e => h5.2.2.2.1 (by rw [q2, ← e]; simp))]; exact q3⟩
  · rw [H.get_other _ _ (fun e => h5.1 e.symm), h3]
  · rw [H.get_other _ _ (fun e => h5.2.1 e.symm), h4]
theorem need_pos {lays : List (Int × Int)} {i n : Int} (he : (needN lays i n).2 = 0) : 1 ≤ (needN lays i n).1 ∧ 0 ≤ i ∧ i < lays.length ∧ 0 ≤ n ∧ n ≤ 65536 ∧ (needN lays i n).1 = (if kindAt lays i = 3 then 1 + (n + 7) / 8 else 1 + n) := by
  unfold needN at he ⊢
  by_cases h1 : i < 0 ∨ (lays.length : Int) ≤ i ∨ n < 0
  · rw [if_pos h1] at he; cases he
  · rw [if_neg h1] at he ⊢
    by_cases h2 : kindAt lays i = 1 ∧ n ≠ nAt lays i
    · rw [if_pos h2] at he; cases he
    · rw [if_neg h2] at he ⊢
      by_cases h3 : 65536 < n
      · rw [if_pos h3] at he; cases he
      · rw [if_neg h3] at he ⊢
        by_cases h4 : kindAt lays i = 3
        · rw [if_pos h4]
          refine ⟨by show (1 : Int) ≤ 1 + (n + 7) / 8; omega, by omega, by omega, by omega, by omega, by rw [if_pos h4]⟩
        · rw [if_neg h4]
          refine ⟨by show (1 : Int) ≤ 1 + n; omega, by omega, by omega, by omega, by omega, by rw [if_neg h4]⟩
theorem alloc_c (hh : HeapAt h b bw bd B s) (g : s.good) (i n : Int) {K : AV → H → Prop}
    (hE : (needN s.lays i n).2 ≠ 0 → ∀ h', Fr [] h h' → K (.tup [.int .i64 0, .int .i64 (needN s.lays i n).2]) h')
    (hF : (needN s.lays i n).2 = 0 → (s.words.length : Int) - s.top < (needN s.lays i n).1 → ∀ h', Fr [] h h' → K (.tup [.int .i64 0, .int .i64 3]) h')
    (hG : (needN s.lays i n).2 = 0 → (needN s.lays i n).1 ≤ (s.words.length : Int) - s.top → ∀ h', Fr [b, bw, bd] h h' → HeapAt h' b bw bd B (s.alloc i n (needN s.lays i n).1) → K (.tup [.int .i64 s.top, .int .i64 0]) h') :
    C 55 [.ptr b 0, .int .i64 i, .int .i64 n] h K := by
  refine run55 ?_
  unfold sh55
  refine need_c hh g i n fun h1 f1 => ?_
  have hh1 := hh.fr0 f1
  clear hh
  by_cases he : (needN s.lays i n).2 = 0
  · obtain ⟨p1, p2, p3, p4, p5, p6⟩ := need_pos he
    have g1 := g.wlen; have g2 := g.hlen; have g3 := g.top
    obtain ⟨lv, c, r, _⟩ := hh1.cells
    have e1 : IntKind.i64.wrap ((s.words.length : Int) - s.top) = s.words.length - s.top := i64_id (by omega) (by omega)
    by_cases hk : (s.words.length : Int) - s.top < (needN s.lays i n).1
    · simp only [go_sem, reduceIte, Nat.reduceAdd, Nat.reduceSub, Nat.reduceMul, Nat.reducePow, Nat.reduceLT, Nat.reduceLeDiff, Nat.reduceEqDiff, Int.reduceAdd, Int.reduceSub, Int.reduceMul, Int.reduceNeg, Int.reducePow, Int.reduceLT, Int.reduceLE, Int.reduceEq, Int.reduceNe, Int.reduceToNat, Int.toNat_natCast, Nat.zero_add, Nat.add_zero, Nat.mul_one, Nat.one_mul, Bool.not_true, Bool.not_false, ne_eq, not_true_eq_false, not_false_eq_true, Bool.false_eq_true, he, c, e1, hk]
      exact hF he hk h1 f1
    · have t0 : (0 : Int) ≤ (s.top : Nat) := by omega
      have t1 : ((s.top : Nat) : Int) < s.words.length := by omega
      have st1 := hh1.st_word (w := headN i n) t0 t1
      rw [Int.toNat_natCast] at st1
      have hh2 := hh1.put s.top (headN i n)
      have f2 : Fr [b, bw, bd] h1 (h1.set bw (.live (wc (s.put s.top (headN i n)).words) 25 true)) := Fr.put (by simp)
      simp only [go_sem, reduceIte, Nat.reduceAdd, Nat.reduceSub, Nat.reduceMul, Nat.reducePow, Nat.reduceLT, Nat.reduceLeDiff, Nat.reduceEqDiff, Int.reduceAdd, Int.reduceSub, Int.reduceMul, Int.reduceNeg, Int.reducePow, Int.reduceLT, Int.reduceLE, Int.reduceEq, Int.reduceNe, Int.reduceToNat, Int.toNat_natCast, Nat.zero_add, Nat.add_zero, Nat.mul_one, Nat.one_mul, Bool.not_true, Bool.not_false, ne_eq, not_true_eq_false, not_false_eq_true, Bool.false_eq_true, he, c, e1, hk, head_c, t0, t1, st1]
      generalize h1.set bw (.live (wc (s.put s.top (headN i n)).words) 25 true) = h2 at *
      obtain ⟨lv2, c2, r2, _⟩ := hh2.cells
      have hs2 : (s.put s.top (headN i n)).words = s.words.set s.top (headN i n) := by simp [Hs.put]
      have fin : ∀ h3 ws, ws.length = s.words.length → Fr [b, bw, bd] h1 h3 → HeapAt h3 b bw bd B { s with words := ws } →
          (ws = (if kindAt s.lays i = 3 then s.words.set s.top (headN i n) else fillW (s.words.set s.top (headN i n)) (s.top + 1) n.toNat)) →
          valA (nilcA (.ptr b 0)) h3 (fun t72 h => valA (faA 1 t72) h fun t73 h => valA (ldA h none t73) h fun t74 h => valA (binOp .quo .num (.int .i64 s.top) (.int .i64 64)) h fun t76 h => valA (iaA 1 t74 t76) h fun t77 h => valA (ldA h none t77) h fun t78 h =>
            valA (binOp .rem .num (.int .i64 s.top) (.int .i64 64)) h fun t80 h => valA (binOp .shl .num (.int .u64 1) t80) h fun t81 h => valA (binOp .or .num t78 t81) h fun t82 h => valA (iaA 1 t74 t76) h fun t83 h => memA (stA h 1 t83 t82) .undef fun _ h =>
            valA (nilcA (.ptr b 0)) h fun t85 h => valA (faA 3 t85) h fun t86 h => valA (ldA h none t86) h fun t87 h => valA (binOp .add .num t87 (.int .i64 (needN s.lays i n).1)) h fun t89 h => valA (nilcA (.ptr b 0)) h fun t90 h => valA (faA 3 t90) h fun t91 h =>
            memA (stA h 1 t91 t89) .undef fun _ h => K (.tup [.int .i64 s.top, .int .i64 0]) h) := by
        intro h3 ws hlw f3 hh3 hws
        obtain ⟨lv3, c3, r3, gb3⟩ := hh3.cells
        have u1 : IntKind.i64.wrap ((s.top : Int).tdiv 64) = (s.top : Int) / 64 := by rw [Int.tdiv_eq_ediv_of_nonneg t0, i64_id (by omega) (by omega)]
        have u2 : (s.top : Int).tmod 64 = (s.top : Int) % 64 := Int.tmod_eq_emod_of_nonneg t0
        have v0 : (0 : Int) ≤ (s.top : Int) / 64 := by omega
        have v1 : (s.top : Int) / 64 < (s.heads.length : Nat) := by omega
        have m0 : (0 : Int) ≤ (s.top : Int) % 64 := by omega
        have m1 : (s.top : Int) % 64 ≤ 64 := by omega
        have mk : ((s.top : Int) % 64).toNat = s.top % 64 := by omega
        have mk2 : ((s.top : Int) / 64).toNat = s.top / 64 := by omega
        have hhead := hh3.head (a := s.top) (by show ((s.top : Int) / 64).toNat < s.heads.length; omega)
        have hbr : 0 ≤ s.heads.getD (s.top / 64) 0 ∧ s.heads.getD (s.top / 64) 0 < 18446744073709551616 := getD_range g.hrange _
        have hhb : Hs.hb { s with words := ws } s.top = s.heads.getD (s.top / 64) 0 := by unfold Hs.hb; rw [mk2]
        rw [hhb] at hhead
        have w1 : IntKind.u64.wrap (1 * 2 ^ ((s.top : Int) % 64).toNat) = 2 ^ (s.top % 64) := by rw [mk]; exact pow_wrap (by omega)
        have w2 := or_bit (k := s.top % 64) hbr.1 hbr.2 (by omega)
        have st2 : stA h3 1 (.ptr bd (s.top / 64)) (.int .u64 (orBit (s.heads.getD (s.top / 64) 0) (s.top % 64))) = some (h3.set bd (.live (wc (Hs.mark { s with words := ws } s.top).heads) 25 true)) := by
          rw [st_one hh3.hd (by rw [wc_length]; show s.top / 64 < s.heads.length; omega), wc_set]; rfl
        have hh4 := hh3.mark s.top
        obtain ⟨lv4, c4, r4, _⟩ := hh4.cells
        obtain ⟨cs, gb4, l4, hh5⟩ := hh4.up (s.top + (needN s.lays i n).1.toNat)
        have w3 : IntKind.i64.wrap ((s.top : Int) + (needN s.lays i n).1) = ((s.top + (needN s.lays i n).1.toNat : Nat) : Int) := by rw [i64_id (by omega) (by omega)]; omega
        have st3 := st_one (k := .i64) (n := ((s.top + (needN s.lays i n).1.toNat : Nat) : Int)) gb4 l4
        have htop : ((Hs.mark { s with words := ws } s.top).top : Int) = s.top := rfl
        rw [htop] at c4
        simp only [mk2] at hhead
        simp only [go_sem, reduceIte, Nat.reduceAdd, Nat.reduceSub, Nat.reduceMul, Nat.reducePow, Nat.reduceLT, Nat.reduceLeDiff, Nat.reduceEqDiff, Int.reduceAdd, Int.reduceSub, Int.reduceMul, Int.reduceNeg, Int.reducePow, Int.reduceLT, Int.reduceLE, Int.reduceEq, Int.reduceNe, Int.reduceToNat, Int.toNat_natCast, Nat.zero_add, Nat.add_zero, Nat.mul_one, Nat.one_mul, Bool.not_true, Bool.not_false, ne_eq, not_true_eq_false, not_false_eq_true, Bool.false_eq_true, c3, u1, u2, v0, v1, mk2, hhead, b_shl_u64 m0 m1, w1, w2, st2, c4, w3, st3]
        refine hG he (by omega) _ ?_ ?_
        · exact (((f1.weaken (by simp)).trans f3).trans (Fr.put (by simp))).trans (Fr.put (by simp))
        · have : s.alloc i n (needN s.lays i n).1 = { Hs.mark { s with words := ws } s.top with top := s.top + (needN s.lays i n).1.toNat } := by unfold Hs.alloc; rw [← hws]
          rw [this]; exact hh5
      have hi : ((i.toNat : Nat) : Int) = i := by omega
      obtain ⟨bl, o, q1, q2, q3, q4⟩ := r2.lay (lay_get (L := s.lays) (i := i) p2 p3)
      rw [hi] at q1
      refine join_r (fun (J : H → Prop) => ∀ h3 ws, ws.length = s.words.length → Fr [b, bw, bd] h1 h3 → HeapAt h3 b bw bd B { s with words := ws } →
          (ws = (if kindAt s.lays i = 3 then s.words.set s.top (headN i n) else fillW (s.words.set s.top (headN i n)) (s.top + 1) n.toNat)) → J h3) fin fun J hJ => ?_
      by_cases h3 : kindAt s.lays i = 3
      · have h3' : ¬ (kindAt s.lays i ≠ 3) := fun q => q h3
        simp only [go_sem, reduceIte, Nat.reduceAdd, Nat.reduceSub, Nat.reduceMul, Nat.reducePow, Nat.reduceLT, Nat.reduceLeDiff, Nat.reduceEqDiff, Int.reduceAdd, Int.reduceSub, Int.reduceMul, Int.reduceNeg, Int.reducePow, Int.reduceLT, Int.reduceLE, Int.reduceEq, Int.reduceNe, Int.reduceToNat, Int.toNat_natCast, Nat.zero_add, Nat.add_zero, Nat.mul_one, Nat.one_mul, Bool.not_true, Bool.not_false, ne_eq, not_true_eq_false, not_false_eq_true, Bool.false_eq_true, c2, q1, q2, h3]
        refine hJ h2 _ (by rw [List.length_set]) f2 hh2 ?_
        rw [if_pos h3, Int.toNat_natCast]
      · simp only [go_sem, reduceIte, Nat.reduceAdd, Nat.reduceSub, Nat.reduceMul, Nat.reducePow, Nat.reduceLT, Nat.reduceLeDiff, Nat.reduceEqDiff, Int.reduceAdd, Int.reduceSub, Int.reduceMul, Int.reduceNeg, Int.reducePow, Int.reduceLT, Int.reduceLE, Int.reduceEq, Int.reduceNe, Int.reduceToNat, Int.toNat_natCast, Nat.zero_add, Nat.add_zero, Nat.mul_one, Nat.one_mul, Bool.not_true, Bool.not_false, ne_eq, not_true_eq_false, not_false_eq_true, Bool.false_eq_true, c2, q1, q2, h3]
        refine loop_r n.toNat (fun k l h' => ∃ j : Nat, l = [.int .i64 j] ∧ (j : Int) ≤ n ∧ Fr [b, bw, bd] h1 h' ∧ HeapAt h' b bw bd B { s with words := fillW (s.words.set s.top (headN i n)) (s.top + 1) j } ∧ k = n.toNat - j) ⟨0, rfl, by omega, f2, by simpa [fillW, hs2, Hs.put] using hh2, rfl⟩ ?_
        rintro k l h' ⟨j, rfl, hj, f', hh', rfl⟩
        rw [if_neg h3] at p6
        by_cases hlt : (j : Int) < n
        · obtain ⟨lv', c', r', _⟩ := hh'.cells
          have hfl : (fillW (s.words.set s.top (headN i n)) (s.top + 1) j).length = s.words.length := by rw [fillW_length, List.length_set]
          have x1 : IntKind.i64.wrap (IntKind.i64.wrap ((s.top : Int) + 1) + j) = ((s.top + 1 + j : Nat) : Int) := by rw [i64_id (n := (s.top : Int) + 1) (by omega) (by omega), i64_id (by omega) (by omega)]; omega
          have x2 : (0 : Int) ≤ ((s.top + 1 + j : Nat) : Int) := by omega
          have x3 : ((s.top + 1 + j : Nat) : Int) < (s.words.length : Nat) := by omega
          have x4 : IntKind.i64.wrap ((j : Int) + 1) = ((j + 1 : Nat) : Int) := by rw [i64_id (by omega) (by omega)]; rfl
          have x5 : (0 * 2 % 18446744073709551616 + 1 : Int) = 1 := by decide
          have imm0 : ∀ (h : H) K, C 83 [.int .i64 0] h K = K (.int .u64 1) h := fun h K => by rw [imm_c]; rfl
          have st4 := hh'.st_word (w := 1) x2 (by show _ < ((fillW (s.words.set s.top (headN i n)) (s.top + 1) j).length : Int); rw [hfl]; exact x3)
          rw [Int.toNat_natCast] at st4
          simp only [hfl] at c'
          simp only [go_sem, reduceIte, Nat.reduceAdd, Nat.reduceSub, Nat.reduceMul, Nat.reducePow, Nat.reduceLT, Nat.reduceLeDiff, Nat.reduceEqDiff, Int.reduceAdd, Int.reduceSub, Int.reduceMul, Int.reduceNeg, Int.reducePow, Int.reduceLT, Int.reduceLE, Int.reduceEq, Int.reduceNe, Int.reduceToNat, Int.toNat_natCast, Nat.zero_add, Nat.add_zero, Nat.mul_one, Nat.one_mul, Bool.not_true, Bool.not_false, ne_eq, not_true_eq_false, not_false_eq_true, Bool.false_eq_true, hlt, c', x1, x2, x3, x4, imm0, st4]
          refine ⟨n.toNat - (j + 1), by omega, j + 1, rfl, by omega, f'.trans (Fr.put (by simp)), ?_, rfl⟩
          have e : ({ s with words := fillW (s.words.set s.top (headN i n)) (s.top + 1) (j + 1) } : Hs) = Hs.put { s with words := fillW (s.words.set s.top (headN i n)) (s.top + 1) j } ((s.top + 1 + j : Nat) : Int) 1 := by
            unfold Hs.put; rw [Int.toNat_natCast]; rfl
          rw [e]
          exact hh'.put ((s.top + 1 + j : Nat) : Int) 1
        · have : j = n.toNat := by omega
          subst this
          simp only [go_sem, reduceIte, Nat.reduceAdd, Nat.reduceSub, Nat.reduceMul, Nat.reducePow, Nat.reduceLT, Nat.reduceLeDiff, Nat.reduceEqDiff, Int.reduceAdd, Int.reduceSub, Int.reduceMul, Int.reduceNeg, Int.reducePow, Int.reduceLT, Int.reduceLE, Int.reduceEq, Int.reduceNe, Int.reduceToNat, Int.toNat_natCast, Nat.zero_add, Nat.add_zero, Nat.mul_one, Nat.one_mul, Bool.not_true, Bool.not_false, ne_eq, not_true_eq_false, not_false_eq_true, Bool.false_eq_true, hlt]
          exact hJ h' _ (by rw [fillW_length, List.length_set]) f' hh' (by rw [if_neg h3])
  · simp only [go_sem, reduceIte, Nat.reduceAdd, Nat.reduceSub, Nat.reduceMul, Nat.reducePow, Nat.reduceLT, Nat.reduceLeDiff, Nat.reduceEqDiff, Int.reduceAdd, Int.reduceSub, Int.reduceMul, Int.reduceNeg, Int.reducePow, Int.reduceLT, Int.reduceLE, Int.reduceEq, Int.reduceNe, Int.reduceToNat, Int.toNat_natCast, Nat.zero_add, Nat.add_zero, Nat.mul_one, Nat.one_mul, Bool.not_true, Bool.not_false, ne_eq, not_true_eq_false, not_false_eq_true, Bool.false_eq_true, he]
    exact hE he h1 f1
end
end Go.Proofs.Ytljkkfcokpimkaa.X
set_option linter.unusedVariables false
set_option linter.unusedSimpArgs false
set_option maxRecDepth 20000
namespace Go.Proofs.Ytljkkfcokpimkaa.X
open Go Go.RowKit
structure Ob where
  sh : Int
  n : Int
  body : List Int
def Ob.row (o : Ob) : List Int := headN o.sh o.n :: o.body
def rowOf (os : List Ob) : List Int := os.flatMap Ob.row
def findO : List Ob → Int → Option Ob
  | [], _ => none
  | o :: os, a => if a = 0 then some o else findO os (a - o.row.length)
theorem rowOf_append (a b : List Ob) : rowOf (a ++ b) = rowOf a ++ rowOf b := by simp [rowOf]
theorem rowOf_cons (o : Ob) (os : List Ob) : rowOf (o :: os) = o.row ++ rowOf os := by simp [rowOf]
theorem row_pos (o : Ob) : 0 < o.row.length := by simp [Ob.row]
theorem findO_neg : ∀ (os : List Ob) (a : Int), a < 0 → findO os a = none
  | [], _, _ => rfl
  | o :: os, a, h => by
    rw [findO, if_neg (by omega)]
    exact findO_neg os _ (by have := row_pos o; omega)
theorem findO_split : ∀ (os : List Ob) (a : Int) (o : Ob), findO os a = some o → ∃ pre post, os = pre ++ o :: post ∧ a = (rowOf pre).length
  | [], _, _, h => by cases h
  | x :: os, a, o, h => by
    rw [findO] at h
    split at h
    · rename_i h0
      injection h with h
      subst h
      exact ⟨[], os, rfl, by simp [rowOf, h0]⟩
    · obtain ⟨pre, post, rfl, ha⟩ := findO_split os _ o h
      exact ⟨x :: pre, post, rfl, by rw [rowOf_cons, List.length_append]; omega⟩
theorem findO_at : ∀ (pre post : List Ob) (o : Ob), findO (pre ++ o :: post) (rowOf pre).length = some o
  | [], post, o => by simp [rowOf, findO]
  | x :: pre, post, o => by
    have hp := row_pos x
    rw [List.cons_append, findO, rowOf_cons, List.length_append, if_neg (by omega)]
    have : (((x.row.length + (rowOf pre).length : Nat) : Int) - (x.row.length : Int)) = (rowOf pre).length := by omega
    rw [this]
    exact findO_at pre post o
theorem findO_lt (os : List Ob) (a : Int) (o : Ob) (h : findO os a = some o) : 0 ≤ a ∧ a + o.row.length ≤ (rowOf os).length := by
  obtain ⟨pre, post, rfl, rfl⟩ := findO_split os a o h
  rw [rowOf_append, rowOf_cons]
  simp only [List.length_append]
  omega
theorem findO_append (os : List Ob) (o : Ob) (a : Int) : findO (os ++ [o]) a = if a = (rowOf os).length then some o else findO os a := by
  induction os generalizing a with
  | nil => simp [findO, rowOf]
  | cons x os ih =>
    have hp := row_pos x
    rw [List.cons_append, findO, rowOf_cons, List.length_append, ih]
    by_cases h0 : a = 0
    · rw [if_pos h0, if_neg (by omega), findO, if_pos h0]
    · rw [if_neg h0, findO, if_neg h0]
      by_cases h1 : a = ((x.row.length + (rowOf os).length : Nat) : Int)
      · rw [if_pos (by omega), if_pos h1]
      · rw [if_neg (by omega), if_neg h1]
theorem findO_head {os : List Ob} {a : Int} {o : Ob} {r : List Int} (h : findO os a = some o) (j : Nat) (hj : j < o.row.length) : (rowOf os ++ r).getD (a.toNat + j) 0 = o.row.getD j 0 := by
  obtain ⟨pre, post, rfl, rfl⟩ := findO_split os a o h
  rw [rowOf_append, rowOf_cons, Int.toNat_natCast, List.getD_eq_getElem?_getD, List.getD_eq_getElem?_getD, List.append_assoc, List.getElem?_append_right (by omega), List.append_assoc, List.getElem?_append_left (by omega)]
  congr 2; omega
theorem orBit_nat {n k : Nat} (hn : n < 2 ^ 64) (hk : k < 64) : orBit n k = ((n ||| 2 ^ k : Nat) : Int) := by
  have hp : (2 : Nat) ^ k < 2 ^ 64 := Nat.pow_lt_pow_right (by decide) hk
  rw [← or_bit (by omega) (by omega) hk]
  have := (bits_nat .u64 64 (by decide) wraps_u64 n (2 ^ k) hn hp).2
  have e2 : ((2 ^ k : Nat) : Int) = 2 ^ k := by push_cast; rfl
  rw [e2] at this
  exact this
theorem bit_iff (n j : Nat) : ((n : Int) / 2 ^ j % 2 = 1) ↔ n.testBit j = true := by
  rw [Nat.testBit_eq_decide_div_mod_eq, decide_eq_true_eq]
  constructor
  · intro h; exact_mod_cast h
  · intro h; exact_mod_cast h
theorem orBit_bit {w : Int} {k j : Nat} (h0 : 0 ≤ w) (h1 : w < 18446744073709551616) (hk : k < 64) : (orBit w k / 2 ^ j % 2 = 1) ↔ (j = k ∨ w / 2 ^ j % 2 = 1) := by
  obtain ⟨n, rfl⟩ := Int.eq_ofNat_of_zero_le h0
  rw [orBit_nat (by omega) hk, bit_iff, bit_iff, Nat.testBit_or, Nat.testBit_two_pow]
  simp only [Bool.or_eq_true, decide_eq_true_eq]
  constructor
  · rintro (h | h)
    · exact .inr h
    · exact .inl h.symm
  · rintro (h | h)
    · exact .inr h.symm
    · exact .inl h
def Hs.bit (s : Hs) (a : Nat) : Prop := s.heads.getD (a / 64) 0 / 2 ^ (a % 64) % 2 = 1
structure Abs (s : Hs) (os : List Ob) : Prop where
  good : s.good
  words : s.words = rowOf os ++ List.replicate (s.words.length - (rowOf os).length) 0
  top : s.top = (rowOf os).length
  bits : ∀ a : Nat, a / 64 < s.heads.length → (s.bit a ↔ (findO os a).isSome = true)
  each : ∀ o ∈ os, needN s.lays o.sh o.n = ((o.row.length : Int), 0)
theorem Abs.isAt {s : Hs} {os : List Ob} (A : Abs s os) (a : Int) : s.isAt a = (findO os a).isSome := by
  have g3 := A.good.top; have g2 := A.good.hlen
  unfold Hs.isAt
  by_cases h0 : 0 ≤ a
  · by_cases h1 : a < s.top
    · simp only [h0, h1, decide_true, Bool.true_and]
      have := A.bits a.toNat (by omega)
      have ha : ((a.toNat : Nat) : Int) = a := by omega
      rw [ha] at this
      unfold Hs.bit at this
      unfold Hs.hb
      have e1 : (a / 64).toNat = a.toNat / 64 := by omega
      have e2 : (a % 64).toNat = a.toNat % 64 := by omega
      rw [e1, e2]
      cases hf : (findO os a).isSome
      · rw [hf] at this; simpa using this
      · rw [hf] at this; simpa using this
    · have : findO os a = none := by
        cases hf : findO os a with
        | none => rfl
        | some o => have := findO_lt os a o hf; have := row_pos o; rw [A.top] at h1; omega
      simp [h1, this]
  · rw [findO_neg os a (by omega)]; simp [h0]
theorem headN_shape {s n : Int} (h0 : 0 ≤ s) (h1 : s < 1048576) : shapeOf (headN s n) = s := by unfold shapeOf headN; omega
theorem headN_len {s n : Int} (h0 : 0 ≤ n) (h1 : n < 1048576) : lenOf (headN s n) = n := by unfold lenOf headN; omega
theorem Abs.at {s : Hs} {os : List Ob} (A : Abs s os) {a : Int} {o : Ob} (h : findO os a = some o) :
    s.wd a = headN o.sh o.n ∧ shapeOf (s.wd a) = o.sh ∧ lenOf (s.wd a) = o.n ∧ 0 ≤ o.sh ∧ o.sh < s.lays.length ∧ 0 ≤ o.n ∧ o.n ≤ 65536 ∧ 0 ≤ a ∧ a + o.row.length ≤ s.top ∧ (o.row.length : Int) = (if kindAt s.lays o.sh = 3 then 1 + (o.n + 7) / 8 else 1 + o.n) ∧ (kindAt s.lays o.sh = 1 → o.n = nAt s.lays o.sh) := by
  have hm : o ∈ os := by obtain ⟨pre, post, rfl, _⟩ := findO_split os a o h; simp
  have he := A.each o hm
  have hp := need_pos (lays := s.lays) (i := o.sh) (n := o.n) (by rw [he])
  have hl := A.good.llen
  have hlt := findO_lt os a o h
  have hw : s.wd a = headN o.sh o.n := by
    unfold Hs.wd
    rw [A.words]
    have := findO_head (r := List.replicate (s.words.length - (rowOf os).length) 0) h 0 (row_pos o)
    simpa [Ob.row] using this
  rw [he] at hp
  refine ⟨hw, by rw [hw, headN_shape (by omega) (by omega)], by rw [hw, headN_len (by omega) (by omega)], by omega, by omega, by omega, by omega, by omega, by rw [A.top]; omega, hp.2.2.2.2.2, fun h1 => ?_⟩
  have he2 := he
  unfold needN at he2
  rw [if_neg (by omega)] at he2
  by_cases h2 : o.n = nAt s.lays o.sh
  · exact h2
  · rw [if_pos ⟨h1, h2⟩] at he2
    have := congrArg Prod.snd he2
    simp at this
theorem Abs.word {s : Hs} {os : List Ob} (A : Abs s os) {a : Int} {o : Ob} (h : findO os a = some o) (j : Nat) (hj : j < o.body.length) : s.wd (a + 1 + j) = o.body.getD j 0 := by
  have h0 := findO_lt os a o h
  have := findO_head (r := List.replicate (s.words.length - (rowOf os).length) 0) h (j + 1) (by simp [Ob.row]; omega)
  rw [← A.words] at this
  unfold Hs.wd
  rw [show (a + 1 + (j : Int)).toNat = a.toNat + (j + 1) by omega, this]
  simp [Ob.row]
theorem good_new (n : Nat) {lays : List (Int × Int)} (hn : n ≤ 65536) (hl : lays.length ≤ 512) (hb : lays.any badLay = false) : (newHs n lays).good := by
  refine ⟨by simpa [newHs] using hn, by simp [newHs], hl, fun x hx => ?_, fun w hw => ?_, fun w hw => ?_, by simp [newHs]⟩
  · have : badLay x = false := by
      rw [Bool.eq_false_iff]; intro q
      have hx' : x ∈ lays := hx
      rw [List.any_eq_true.2 ⟨x, hx', q⟩] at hb; cases hb
    have := badLay_f.1 (show badLay (x.1, x.2) = false from this)
    omega
  · simp [newHs] at hw; omega
  · simp [newHs] at hw; omega
theorem abs_new (n : Nat) {lays : List (Int × Int)} (hn : n ≤ 65536) (hl : lays.length ≤ 512) (hb : lays.any badLay = false) : Abs (newHs n lays) [] := by
  refine ⟨good_new n hn hl hb, by simp [newHs, rowOf], by simp [newHs, rowOf], fun a ha => ?_, by simp⟩
  have : (newHs n lays).heads.getD (a / 64) 0 = 0 := by
    simp only [newHs, List.getD_eq_getElem?_getD, List.getElem?_replicate]
    split <;> rfl
  unfold Hs.bit
  rw [this]
  simp [findO]
theorem fillW_eq : ∀ (n : Nat) (pre : List Int) (r : List Int), n ≤ r.length → fillW (pre ++ r) pre.length n = pre ++ List.replicate n 1 ++ r.drop n
  | 0, pre, r, _ => by simp [fillW]
  | n + 1, pre, r, h => by
    rw [fillW, fillW_eq n pre r (by omega)]
    obtain ⟨x, hx⟩ : ∃ x, r.drop n = x :: r.drop (n + 1) := ⟨r[n], List.drop_eq_getElem_cons (by omega)⟩
    rw [hx, List.set_append_right _ _ (by simp), List.replicate_succ']
    simp
def newOb (lays : List (Int × Int)) (i n : Int) : Ob := ⟨i, n, if kindAt lays i = 3 then List.replicate ((n + 7) / 8).toNat 0 else List.replicate n.toNat 1⟩
theorem newOb_row {lays : List (Int × Int)} {i n : Int} (he : (needN lays i n).2 = 0) : ((newOb lays i n).row.length : Int) = (needN lays i n).1 := by
  obtain ⟨p1, p2, p3, p4, p5, p6⟩ := need_pos he
  rw [p6]
  unfold newOb Ob.row
  split <;> simp <;> omega
theorem abs_alloc {s : Hs} {os : List Ob} (A : Abs s os) {i n : Int} (he : (needN s.lays i n).2 = 0) (hk : (needN s.lays i n).1 ≤ (s.words.length : Int) - s.top) : Abs (s.alloc i n (needN s.lays i n).1) (os ++ [newOb s.lays i n]) := by
  obtain ⟨p1, p2, p3, p4, p5, p6⟩ := need_pos he
  have hr := newOb_row he
  have g := A.good
  have htop := A.top
  have hwl : (rowOf (os ++ [newOb s.lays i n])).length = (rowOf os).length + (needN s.lays i n).1.toNat := by
    rw [rowOf_append, List.length_append]
    have : rowOf [newOb s.lays i n] = (newOb s.lays i n).row := by simp [rowOf]
    rw [this]; omega
  have hwords : (if kindAt s.lays i = 3 then s.words.set s.top (headN i n) else fillW (s.words.set s.top (headN i n)) (s.top + 1) n.toNat) = rowOf (os ++ [newOb s.lays i n]) ++ List.replicate (s.words.length - (rowOf (os ++ [newOb s.lays i n])).length) 0 := by
    obtain ⟨r, hr2⟩ : ∃ r, s.words.length - (rowOf os).length = r + 1 := ⟨s.words.length - (rowOf os).length - 1, by omega⟩
    have e1 : s.words.set s.top (headN i n) = (rowOf os ++ [headN i n]) ++ List.replicate r 0 := by
      rw [htop]
      conv => lhs; rw [A.words, hr2]
      rw [List.set_append_right _ _ (Nat.le_refl _), Nat.sub_self, List.replicate_succ]
      simp
    have e2 : rowOf (os ++ [newOb s.lays i n]) = rowOf os ++ [headN i n] ++ (newOb s.lays i n).body := by
      rw [rowOf_append]; simp [rowOf, Ob.row, newOb]
    rw [hwl, e2]
    by_cases h3 : kindAt s.lays i = 3
    · rw [if_pos h3] at p6 ⊢
      rw [e1, newOb]
      simp only [h3, if_true]
      rw [List.append_assoc (rowOf os ++ [headN i n]), List.replicate_append_replicate]
      congr 2
      omega
    · rw [if_neg h3] at p6 ⊢
      have hfl : (rowOf os ++ [headN i n]).length = s.top + 1 := by simp [htop]
      rw [e1, ← hfl, fillW_eq n.toNat _ _ (by simp; omega), newOb]
      simp only [h3, if_false]
      rw [List.drop_replicate]
      congr 2
      omega
  refine ⟨⟨?_, ?_, g.llen, g.kinds, ?_, ?_, ?_⟩, ?_, ?_, ?_, ?_⟩
  · show (Hs.alloc s i n _).words.length ≤ _
    simp only [Hs.alloc, Hs.mark]
    split
    · rw [List.length_set]; exact g.wlen
    · rw [fillW_length, List.length_set]; exact g.wlen
  · simp only [Hs.alloc, Hs.mark, List.length_set]
    split
    · rw [List.length_set]; exact g.hlen
    · rw [fillW_length, List.length_set]; exact g.hlen
  · intro w hw
    have hset : ∀ w ∈ s.words.set s.top (headN i n), 0 ≤ w ∧ w < 18446744073709551616 := fun w hw => by
      rcases List.mem_or_eq_of_mem_set hw with hw | rfl
      · exact g.wrange w hw
      · exact ⟨headN_lo .., headN_hi ..⟩
    simp only [Hs.alloc, Hs.mark] at hw
    split at hw
    · exact hset w hw
    · exact fillW_range hset _ _ w hw
  · intro w hw
    simp only [Hs.alloc, Hs.mark] at hw
    rcases List.mem_or_eq_of_mem_set hw with hw | rfl
    · exact g.hrange w hw
    · have := getD_range g.hrange (s.top / 64)
      exact orBit_range this.1 this.2 (by omega)
  · simp only [Hs.alloc, Hs.mark]
    split
    · rw [List.length_set]; omega
    · rw [fillW_length, List.length_set]; omega
  · have hlen : (s.alloc i n (needN s.lays i n).1).words.length = s.words.length := by
      simp only [Hs.alloc, Hs.mark]
      split
      · rw [List.length_set]
      · rw [fillW_length, List.length_set]
    rw [hlen]
    exact hwords
  · simp only [Hs.alloc, Hs.mark]; omega
  · intro a ha
    have hl : a / 64 < s.heads.length := by simpa [Hs.alloc, Hs.mark] using ha
    have hb := A.bits a hl
    have hbr := getD_range g.hrange (s.top / 64)
    have ht : s.top / 64 < s.heads.length := by have := g.hlen; omega
    rw [findO_append, ← htop]
    unfold Hs.bit at hb ⊢
    simp only [Hs.alloc, Hs.mark]
    by_cases hq : a / 64 = s.top / 64
    · have : (s.heads.set (s.top / 64) (orBit (s.heads.getD (s.top / 64) 0) (s.top % 64))).getD (a / 64) 0 = orBit (s.heads.getD (s.top / 64) 0) (s.top % 64) := by
        rw [hq, List.getD_eq_getElem?_getD, List.getElem?_set]; simp [ht]
      rw [this, orBit_bit hbr.1 hbr.2 (by omega)]
      by_cases ha : (a : Int) = s.top
      · rw [if_pos ha]; simp; left; omega
      · rw [if_neg ha, ← hq, hb]
        constructor
        · rintro (h | h)
          · omega
          · exact h
        · exact .inr
    · have : (s.heads.set (s.top / 64) (orBit (s.heads.getD (s.top / 64) 0) (s.top % 64))).getD (a / 64) 0 = s.heads.getD (a / 64) 0 := by
        rw [List.getD_eq_getElem?_getD, List.getElem?_set, if_neg (fun e => hq e.symm), ← List.getD_eq_getElem?_getD]
      rw [this, if_neg (by intro e; apply hq; omega)]
      exact hb
  · intro o ho
    rcases List.mem_append.1 ho with ho | ho
    · exact A.each o ho
    · simp at ho; subst ho
      show needN s.lays i n = _
      rw [hr]
      exact Prod.ext rfl he
end Go.Proofs.Ytljkkfcokpimkaa.X
