/- The reference's word functions, and numbers as bytes: what each of them answers. -/
import Derived.Test.YtljkkfcokpimkaaW1
import Derived.Test.YtljkkfcokpimkaaWb
import Derived.Test.YtljkkfcokpimkaaXq
set_option linter.unusedVariables false
set_option linter.unusedSimpArgs false
set_option maxRecDepth 20000
namespace Go.Proofs.Ytljkkfcokpimkaa.X
open Go Go.RowKit

theorem tdiv2 (b : Int) : b.tdiv 2 = if 0 ≤ b then b / 2 else -((-b) / 2) := by
  split
  · rename_i h; exact Int.tdiv_eq_ediv_of_nonneg h
  · rename_i h
    have : b = -(-b) := by omega
    rw [this, Int.neg_tdiv, Int.tdiv_eq_ediv_of_nonneg (by omega)]
    simp
theorem tmod2 (b : Int) : b.tmod 2 = if 0 ≤ b then b % 2 else -((-b) % 2) := by
  split
  · rename_i h; exact Int.tmod_eq_emod_of_nonneg h
  · rename_i h
    have : b = -(-b) := by omega
    rw [this, Int.neg_tmod, Int.tmod_eq_emod_of_nonneg (by omega)]
    simp
theorem pow_lt63 {n : Nat} (h : n ≤ 63) : (2 : Int) ^ n ≤ 9223372036854775808 := by
  have : (2 : Int) ^ n ≤ 2 ^ 63 := by exact_mod_cast Nat.pow_le_pow_right (by decide) h
  simpa using this
section
variable {h : H}
theorem rwrap_c {n : Int} (h0 : -9223372036854775808 ≤ n) (h1 : n < 9223372036854775808) (K : AV → H → Prop) : C 95 [.int .i64 n] h K = K (.int .i64 (W n)) h := by
  refine callA_eq (run95 ?_) K
  simp only [sh95, joinA]
  refine loop_r (n + 9223372036854775808).toNat (fun k l h' => ∃ x, l = [.int .i64 x] ∧ h' = h ∧ W x = W n ∧ -9223372036854775808 ≤ x ∧ x < 9223372036854775808 ∧ k = (x + 9223372036854775808).toNat) ⟨n, rfl, rfl, rfl, h0, h1, rfl⟩ ?_
  rintro k l h' ⟨x, rfl, rfl, hw, hx0, hx1, rfl⟩
  simp only [go_sem, reduceIte, Nat.reduceAdd, Nat.reduceSub, Nat.reduceMul, Nat.reducePow, Nat.reduceLT, Nat.reduceLeDiff, Nat.reduceEqDiff, Int.reduceAdd, Int.reduceSub, Int.reduceMul, Int.reduceNeg, Int.reducePow, Int.reduceLT, Int.reduceLE, Int.reduceEq, Int.reduceNe, Int.reduceToNat, Int.toNat_natCast, Nat.zero_add, Nat.add_zero, Nat.mul_one, Nat.one_mul, Bool.not_true, Bool.not_false, ne_eq, not_true_eq_false, not_false_eq_true, Bool.false_eq_true]
  split
  · rename_i hx
    refine ⟨_, ?_, x - 4611686018427387904 - 4611686018427387904, ?_, ?_, by omega, by omega, rfl⟩
    · omega
    · rw [i64_id (n := x - 4611686018427387904) (by omega) (by omega), i64_id (by omega) (by omega)]
    · rw [← hw]; unfold W; omega
  · rename_i hx
    refine loop_r (9223372036854775808 - x).toNat (fun k l h'' => ∃ y, l = [.int .i64 y] ∧ h'' = h' ∧ W y = W n ∧ -9223372036854775808 ≤ y ∧ y < 4611686018427387904 ∧ k = (9223372036854775808 - y).toNat) ⟨x, rfl, rfl, hw, hx0, by omega, rfl⟩ ?_
    rintro k l h'' ⟨y, rfl, rfl, hw, hy0, hy1, rfl⟩
    simp only [go_sem, reduceIte, Nat.reduceAdd, Nat.reduceSub, Nat.reduceMul, Nat.reducePow, Nat.reduceLT, Nat.reduceLeDiff, Nat.reduceEqDiff, Int.reduceAdd, Int.reduceSub, Int.reduceMul, Int.reduceNeg, Int.reducePow, Int.reduceLT, Int.reduceLE, Int.reduceEq, Int.reduceNe, Int.reduceToNat, Int.toNat_natCast, Nat.zero_add, Nat.add_zero, Nat.mul_one, Nat.one_mul, Bool.not_true, Bool.not_false, ne_eq, not_true_eq_false, not_false_eq_true, Bool.false_eq_true]
    split
    · rename_i hy
      refine ⟨_, ?_, y + 4611686018427387904 + 4611686018427387904, ?_, ?_, by omega, by omega, rfl⟩
      · omega
      · rw [i64_id (n := y + 4611686018427387904) (by omega) (by omega), i64_id (by omega) (by omega)]
      · rw [← hw]; unfold W; omega
    · rename_i hy
      rw [← hw, W_id (by omega) hy1]
theorem sum_c {a b : Int} (ha0 : -9223372036854775808 ≤ a) (ha1 : a < 9223372036854775808) (hb0 : -9223372036854775808 ≤ b) (hb1 : b < 9223372036854775808) (K : AV → H → Prop) : C 96 [.int .i64 a, .int .i64 b] h K = K (.int .i64 (W (a + b))) h := by
  refine callA_eq (run96 ?_) K
  have := W_lo a; have := W_hi a; have := W_lo b; have := W_hi b
  have e : IntKind.i64.wrap (W a + W b) = W a + W b := i64_id (by omega) (by omega)
  simp only [sh96, go_sem, reduceIte, Nat.reduceAdd, Nat.reduceSub, Nat.reduceMul, Nat.reducePow, Nat.reduceLT, Nat.reduceLeDiff, Nat.reduceEqDiff, Int.reduceAdd, Int.reduceSub, Int.reduceMul, Int.reduceNeg, Int.reducePow, Int.reduceLT, Int.reduceLE, Int.reduceEq, Int.reduceNe, Int.reduceToNat, Int.toNat_natCast, Nat.zero_add, Nat.add_zero, Nat.mul_one, Nat.one_mul, Bool.not_true, Bool.not_false, ne_eq, not_true_eq_false, not_false_eq_true, Bool.false_eq_true, rwrap_c ha0 ha1, rwrap_c hb0 hb1, e, rwrap_c (n := W a + W b) (by omega) (by omega), W_add, W_add']
theorem product_c {a b : Int} (ha0 : -9223372036854775808 ≤ a) (ha1 : a < 9223372036854775808) (hb0 : -9223372036854775808 ≤ b) (hb1 : b < 9223372036854775808) (K : AV → H → Prop) : C 29 [.int .i64 a, .int .i64 b] h K = K (.int .i64 (W (a * b))) h := by
  refine callA_eq (run29 ?_) K
  have := W_lo a; have := W_hi a; have := W_lo b; have := W_hi b
  simp only [sh29, go_sem, reduceIte, Nat.reduceAdd, Nat.reduceSub, Nat.reduceMul, Nat.reducePow, Nat.reduceLT, Nat.reduceLeDiff, Nat.reduceEqDiff, Int.reduceAdd, Int.reduceSub, Int.reduceMul, Int.reduceNeg, Int.reducePow, Int.reduceLT, Int.reduceLE, Int.reduceEq, Int.reduceNe, Int.reduceToNat, Int.toNat_natCast, Nat.zero_add, Nat.add_zero, Nat.mul_one, Nat.one_mul, Bool.not_true, Bool.not_false, ne_eq, not_true_eq_false, not_false_eq_true, Bool.false_eq_true, rwrap_c ha0 ha1, rwrap_c hb0 hb1]
  refine join_r (fun J => ∀ o, W o = W (W a * (W b).natAbs) → -4611686018427387904 ≤ o → o < 4611686018427387904 → J (.int .i64 o) h) ?_ ?_
  · intro o ho ho0 ho1
    have e : IntKind.i64.wrap (0 - o) = -o := by rw [i64_id (by omega) (by omega)]; omega
    simp only [go_sem, reduceIte, Nat.reduceAdd, Nat.reduceSub, Nat.reduceMul, Nat.reducePow, Nat.reduceLT, Nat.reduceLeDiff, Nat.reduceEqDiff, Int.reduceAdd, Int.reduceSub, Int.reduceMul, Int.reduceNeg, Int.reducePow, Int.reduceLT, Int.reduceLE, Int.reduceEq, Int.reduceNe, Int.reduceToNat, Int.toNat_natCast, Nat.zero_add, Nat.add_zero, Nat.mul_one, Nat.one_mul, Bool.not_true, Bool.not_false, ne_eq, not_true_eq_false, not_false_eq_true, Bool.false_eq_true, e]
    split
    · rename_i hb
      have e2 : W (-o) = W (a * b) := by
        have hoo : o = W (W a * (W b).natAbs) := by rw [← ho, W_id ho0 ho1]
        rw [hoo, W_neg]
        have : ((W b).natAbs : Int) = -W b := by omega
        rw [this, Int.mul_neg, Int.neg_neg, W_mul, W_mul']
      rw [rwrap_c (by omega) (by omega), e2]
      exact ⟨rfl, rfl⟩
    · rename_i hb
      have : ((W b).natAbs : Int) = W b := by omega
      rw [this, W_mul, W_mul', W_id ho0 ho1] at ho
      rw [ho]
  · intro J hJ
    refine loop_r (W b).natAbs (fun n l h' => ∃ x y o, l = [.int .i64 x, .int .i64 y, .int .i64 o] ∧ h' = h ∧ n = y.natAbs ∧ -4611686018427387904 ≤ x ∧ x < 4611686018427387904 ∧ -4611686018427387904 ≤ y ∧ y < 4611686018427387904 ∧ -4611686018427387904 ≤ o ∧ o < 4611686018427387904 ∧ W (o + x * y.natAbs) = W (W a * (W b).natAbs))
      ⟨W a, W b, 0, rfl, rfl, rfl, by omega, by omega, by omega, by omega, by omega, by omega, by rw [Int.zero_add]⟩ ?_
    rintro n l h' ⟨x, y, o, rfl, rfl, rfl, hx0, hx1, hy0, hy1, ho0, ho1, hw⟩
    simp only [go_sem, reduceIte, Nat.reduceAdd, Nat.reduceSub, Nat.reduceMul, Nat.reducePow, Nat.reduceLT, Nat.reduceLeDiff, Nat.reduceEqDiff, Int.reduceAdd, Int.reduceSub, Int.reduceMul, Int.reduceNeg, Int.reducePow, Int.reduceLT, Int.reduceLE, Int.reduceEq, Int.reduceNe, Int.reduceToNat, Int.toNat_natCast, Nat.zero_add, Nat.add_zero, Nat.mul_one, Nat.one_mul, Bool.not_true, Bool.not_false, ne_eq, not_true_eq_false, not_false_eq_true, Bool.false_eq_true]
    split
    · rename_i hy
      refine join_r (fun J' => ∀ o', W (o' + W (x + x) * (y.tdiv 2).natAbs) = W (W a * (W b).natAbs) → -4611686018427387904 ≤ o' → o' < 4611686018427387904 → J' (.int .i64 o') h') ?_ ?_
      · intro o' hw' h0' h1'
        have e : IntKind.i64.wrap (y.tdiv 2) = y.tdiv 2 := by rw [tdiv2]; split <;> exact i64_id (by omega) (by omega)
        rw [sum_c (by omega) (by omega) (by omega) (by omega)]
        simp only [go_sem, reduceIte, Nat.reduceAdd, Nat.reduceSub, Nat.reduceMul, Nat.reducePow, Nat.reduceLT, Nat.reduceLeDiff, Nat.reduceEqDiff, Int.reduceAdd, Int.reduceSub, Int.reduceMul, Int.reduceNeg, Int.reducePow, Int.reduceLT, Int.reduceLE, Int.reduceEq, Int.reduceNe, Int.reduceToNat, Int.toNat_natCast, Nat.zero_add, Nat.add_zero, Nat.mul_one, Nat.one_mul, Bool.not_true, Bool.not_false, ne_eq, not_true_eq_false, not_false_eq_true, Bool.false_eq_true, e]
        have := W_lo (x + x); have := W_hi (x + x)
        refine ⟨_, ?_, W (x + x), y.tdiv 2, o', rfl, rfl, by omega, by omega, ?_, ?_, h0', h1', hw'⟩
        · rw [tdiv2]; split <;> omega
        · rw [tdiv2]; split <;> omega
        · rw [tdiv2]; split <;> omega
      · intro J' hJ'
        have hn : (y.natAbs : Int) = 2 * (y.tdiv 2).natAbs + (y.tmod 2).natAbs := by rw [tdiv2, tmod2]; split <;> omega
        have hr : (y.tmod 2).natAbs = 0 ∨ (y.tmod 2).natAbs = 1 := by rw [tmod2]; split <;> omega
        have hz : y.tmod 2 = 0 ↔ (y.tmod 2).natAbs = 0 := by omega
        have key : ∀ q : Int, W (o + x * (2 * q + 1)) = W (W (o + x) + W (x + x) * q) := fun q => by
          rw [W_add, ← W_add' (o + x), W_mul, W_add']
          congr 1
          rw [Int.mul_add, Int.add_mul, Int.mul_one, Int.two_mul, Int.mul_add]; omega
        have key0 : ∀ q : Int, W (o + x * (2 * q)) = W (o + W (x + x) * q) := fun q => by
          rw [← W_add' o (W (x + x) * q), W_mul, W_add']
          congr 1
          rw [Int.add_mul, Int.two_mul, Int.mul_add]
        split
        · rename_i h1
          have h2 : (y.tmod 2).natAbs = 1 := by omega
          rw [sum_c (by omega) (by omega) (by omega) (by omega)]
          have := W_lo (o + x); have := W_hi (o + x)
          refine hJ' _ ?_ (by omega) (by omega)
          rw [← key, ← hw, hn, h2]; rfl
        · rename_i h1
          have h2 : (y.tmod 2).natAbs = 0 := by omega
          refine hJ' _ ?_ ho0 ho1
          rw [← key0, ← hw, hn, h2]; simp
    · rename_i hy
      have hy : y = 0 := by omega
      subst hy
      exact hJ o (by simpa using hw) ho0 ho1
theorem power_c {n : Int} (h0 : 0 ≤ n) (h1 : n ≤ 63) (K : AV → H → Prop) : C 100 [.int .i64 n] h K = K (.int .u64 (2 ^ n.toNat)) h := by
  refine callA_eq (run100 ?_) K
  simp only [sh100, joinA]
  refine loop_r n.toNat (fun k l h' => ∃ i : Nat, l = [.int .u64 (2 ^ i), .int .i64 i] ∧ h' = h ∧ (i : Int) ≤ n ∧ k = n.toNat - i) ⟨0, rfl, rfl, h0, rfl⟩ ?_
  rintro k l h' ⟨i, rfl, rfl, hi, rfl⟩
  simp only [go_sem, reduceIte, Nat.reduceAdd, Nat.reduceSub, Nat.reduceMul, Nat.reducePow, Nat.reduceLT, Nat.reduceLeDiff, Nat.reduceEqDiff, Int.reduceAdd, Int.reduceSub, Int.reduceMul, Int.reduceNeg, Int.reducePow, Int.reduceLT, Int.reduceLE, Int.reduceEq, Int.reduceNe, Int.reduceToNat, Int.toNat_natCast, Nat.zero_add, Nat.add_zero, Nat.mul_one, Nat.one_mul, Bool.not_true, Bool.not_false, ne_eq, not_true_eq_false, not_false_eq_true, Bool.false_eq_true]
  split
  · rename_i hlt
    refine ⟨_, ?_, i + 1, ?_, by omega, rfl⟩
    · omega
    · have := pow_lt63 (n := i) (by omega)
      have h62 : (2 : Int) ^ i ≤ 2 ^ 62 := by exact_mod_cast Nat.pow_le_pow_right (by decide) (show i ≤ 62 by omega)
      have hp : (0 : Int) ≤ 2 ^ i := Int.pow_nonneg (by decide)
      rw [u64_id (by omega) (by simp only [Int.reducePow] at h62; omega), i64_id (by omega) (by omega), Int.pow_succ]
      simp
  · have : i = n.toNat := by omega
    rw [this]
theorem field_c {w p l : Int} (h0 : 0 ≤ w) (h1 : w < 18446744073709551616) (p0 : 0 ≤ p) (p1 : p ≤ 63) (l0 : 0 ≤ l) (l1 : l ≤ 63) (K : AV → H → Prop) : C 34 [.int .u64 w, .int .i64 p, .int .i64 l] h K = K (.int .u64 (w / 2 ^ p.toNat % 2 ^ l.toNat)) h := by
  refine callA_eq (run34 ?_) K
  have hp : (0 : Int) < 2 ^ p.toNat := Int.pow_pos (by decide)
  have hl : (0 : Int) < 2 ^ l.toNat := Int.pow_pos (by decide)
  have hq0 : 0 ≤ w / 2 ^ p.toNat := Int.ediv_nonneg h0 (by omega)
  have hq1 : w / 2 ^ p.toNat ≤ w := Int.ediv_le_self _ h0
  have e1 : w.tdiv (2 ^ p.toNat) = w / 2 ^ p.toNat := Int.tdiv_eq_ediv_of_nonneg h0
  have e2 : (w / 2 ^ p.toNat).tmod (2 ^ l.toNat) = w / 2 ^ p.toNat % 2 ^ l.toNat := Int.tmod_eq_emod_of_nonneg hq0
  have e3 : IntKind.u64.wrap (w / 2 ^ p.toNat) = w / 2 ^ p.toNat := u64_id hq0 (by omega)
  simp only [sh34, go_sem, reduceIte, Nat.reduceAdd, Nat.reduceSub, Nat.reduceMul, Nat.reducePow, Nat.reduceLT, Nat.reduceLeDiff, Nat.reduceEqDiff, Int.reduceAdd, Int.reduceSub, Int.reduceMul, Int.reduceNeg, Int.reducePow, Int.reduceLT, Int.reduceLE, Int.reduceEq, Int.reduceNe, Int.reduceToNat, Int.toNat_natCast, Nat.zero_add, Nat.add_zero, Nat.mul_one, Nat.one_mul, Bool.not_true, Bool.not_false, ne_eq, not_true_eq_false, not_false_eq_true, Bool.false_eq_true, power_c p0 p1, power_c l0 l1]
  rw [b_quo (by omega), valA_some, e1, e3, b_rem (by omega), valA_some, e2]
  exact ⟨rfl, rfl⟩
theorem with_aux {w x : Int} {p l : Nat} (h0 : 0 ≤ w) (h1 : w < 18446744073709551616) (x0 : 0 ≤ x) (hpl : p = 41 ∧ l = 1 ∨ p = 42 ∧ l = 20 ∨ p = 1 ∧ l = 20 ∨ p = 21 ∧ l = 20) :
    0 ≤ withN w p l x ∧ withN w p l x < 18446744073709551616 ∧ 0 ≤ w / 2 ^ p % 2 ^ l * 2 ^ p ∧ w / 2 ^ p % 2 ^ l * 2 ^ p ≤ w ∧ 0 ≤ x % 2 ^ l * 2 ^ p ∧ x % 2 ^ l * 2 ^ p < 18446744073709551616 := by
  unfold withN
  rcases hpl with ⟨rfl, rfl⟩ | ⟨rfl, rfl⟩ | ⟨rfl, rfl⟩ | ⟨rfl, rfl⟩ <;> simp only [Int.reducePow] <;> omega
theorem with_c {w x : Int} {p l : Nat} (h0 : 0 ≤ w) (h1 : w < 18446744073709551616) (x0 : 0 ≤ x) (hpl : p = 41 ∧ l = 1 ∨ p = 42 ∧ l = 20 ∨ p = 1 ∧ l = 20 ∨ p = 21 ∧ l = 20) (K : AV → H → Prop) : C 42 [.int .u64 w, .int .i64 (p : Int), .int .i64 (l : Int), .int .u64 x] h K = K (.int .u64 (withN w p l x)) h := by
  refine callA_eq (run42 ?_) K
  obtain ⟨a1, a2, a3, a4, a5, a6⟩ := with_aux h0 h1 x0 hpl
  have hp : p ≤ 63 := by rcases hpl with ⟨rfl, rfl⟩ | ⟨rfl, rfl⟩ | ⟨rfl, rfl⟩ | ⟨rfl, rfl⟩ <;> decide
  have hl : l ≤ 63 := by rcases hpl with ⟨rfl, rfl⟩ | ⟨rfl, rfl⟩ | ⟨rfl, rfl⟩ | ⟨rfl, rfl⟩ <;> decide
  have hl0 : (0 : Int) < 2 ^ l := Int.pow_pos (by decide)
  simp only [sh42, go_sem, reduceIte, Nat.reduceAdd, Nat.reduceSub, Nat.reduceMul, Nat.reducePow, Nat.reduceLT, Nat.reduceLeDiff, Nat.reduceEqDiff, Int.reduceAdd, Int.reduceSub, Int.reduceMul, Int.reduceNeg, Int.reducePow, Int.reduceLT, Int.reduceLE, Int.reduceEq, Int.reduceNe, Int.reduceToNat, Int.toNat_natCast, Nat.zero_add, Nat.add_zero, Nat.mul_one, Nat.one_mul, Bool.not_true, Bool.not_false, ne_eq, not_true_eq_false, not_false_eq_true, Bool.false_eq_true, field_c h0 h1 (show (0 : Int) ≤ p by omega) (show (p : Int) ≤ 63 by omega) (show (0 : Int) ≤ l by omega) (show (l : Int) ≤ 63 by omega), power_c (show (0 : Int) ≤ p by omega) (show (p : Int) ≤ 63 by omega), power_c (show (0 : Int) ≤ l by omega) (show (l : Int) ≤ 63 by omega)]
  rw [b_rem (by omega), valA_some, Int.tmod_eq_emod_of_nonneg x0]
  simp only [go_sem, reduceIte, Nat.reduceAdd, Nat.reduceSub, Nat.reduceMul, Nat.reducePow, Nat.reduceLT, Nat.reduceLeDiff, Nat.reduceEqDiff, Int.reduceAdd, Int.reduceSub, Int.reduceMul, Int.reduceNeg, Int.reducePow, Int.reduceLT, Int.reduceLE, Int.reduceEq, Int.reduceNe, Int.reduceToNat, Int.toNat_natCast, Nat.zero_add, Nat.add_zero, Nat.mul_one, Nat.one_mul, Bool.not_true, Bool.not_false, ne_eq, not_true_eq_false, not_false_eq_true, Bool.false_eq_true]
  rw [u64_id a3 (by omega), u64_id a5 a6, u64_id (n := w - w / 2 ^ p % 2 ^ l * 2 ^ p) (by omega) (by omega)]
  have : w - w / 2 ^ p % 2 ^ l * 2 ^ p + x % 2 ^ l * 2 ^ p = withN w p l x := rfl
  rw [this, u64_id a1 a2]
theorem with_head (s n : Int) : withN (withN 1 1 20 s) 21 20 n = headN s n := by
  unfold withN headN; simp only [Int.reducePow]; omega
theorem rhead_c (s n : Int) (K : AV → H → Prop) : C 32 [.int .i64 s, .int .i64 n] h K = K (.int .u64 (headN s n)) h := by
  refine callA_eq (run32 ?_) K
  have e1 := with_aux (w := 1) (x := IntKind.u64.wrap s) (p := 1) (l := 20) (by decide) (by decide) (by rw [u64_wrap]; omega) (by decide)
  have w1 := with_c (h := h) (w := 1) (x := IntKind.u64.wrap s) (p := 1) (l := 20) (by decide) (by decide) (by rw [u64_wrap]; omega) (by decide)
  have w2 := with_c (h := h) (w := withN 1 1 20 (IntKind.u64.wrap s)) (x := IntKind.u64.wrap n) (p := 21) (l := 20) e1.1 e1.2.1 (by rw [u64_wrap]; omega) (by decide)
  have e3 : withN (withN 1 1 20 (IntKind.u64.wrap s)) 21 20 (IntKind.u64.wrap n) = headN s n := by
    rw [with_head]; unfold headN; rw [u64_wrap, u64_wrap]; omega
  simp only [Int.cast_ofNat_Int] at w1 w2
  simp only [sh32, go_sem, reduceIte, Nat.reduceAdd, Nat.reduceSub, Nat.reduceMul, Nat.reducePow, Nat.reduceLT, Nat.reduceLeDiff, Nat.reduceEqDiff, Int.reduceAdd, Int.reduceSub, Int.reduceMul, Int.reduceNeg, Int.reducePow, Int.reduceLT, Int.reduceLE, Int.reduceEq, Int.reduceNe, Int.reduceToNat, Int.toNat_natCast, Nat.zero_add, Nat.add_zero, Nat.mul_one, Nat.one_mul, Bool.not_true, Bool.not_false, ne_eq, not_true_eq_false, not_false_eq_true, Bool.false_eq_true, w1, w2, e3]
end
end Go.Proofs.Ytljkkfcokpimkaa.X
