/- Plain facts on whole numbers of 63 and 64 bits: no program in sight. -/
import Derived.RowKit
import Derived.Laws.BitsLemmas
namespace Go.Proofs.Ytljkkfcokpimkaa.X
open Go Go.RowKit

/-- The number of 63 bits from which n differs by a multiple of 2^63. -/
def W (n : Int) : Int := (n + 4611686018427387904) % 9223372036854775808 - 4611686018427387904

theorem u64_wrap (n : Int) : IntKind.u64.wrap n = n % 18446744073709551616 := by simp [IntKind.wrap, IntKind.bits, IntKind.signed]
theorem i64_wf {a : Int} (h : (Lit.int .i64 a).wf = true) : -9223372036854775808 ≤ a ∧ a ≤ 9223372036854775807 := by
  simpa [Lit.wf, IntKind.min, IntKind.max, IntKind.signed, IntKind.bits] using h
theorem u64_wf {a : Int} (h : (Lit.int .u64 a).wf = true) : 0 ≤ a ∧ a ≤ 18446744073709551615 := by
  simpa [Lit.wf, IntKind.min, IntKind.max, IntKind.signed, IntKind.bits] using h

theorem wrap_half (n : Int) : wrap64 (n * 2) / 2 = W n := by unfold wrap64 W; omega
theorem W_wrap (n : Int) : W (wrap64 n) = W n := by unfold wrap64 W; omega
theorem W_lo (n : Int) : -4611686018427387904 ≤ W n := by unfold W; omega
theorem W_hi (n : Int) : W n < 4611686018427387904 := by unfold W; omega
theorem W_id {n : Int} (h0 : -4611686018427387904 ≤ n) (h1 : n < 4611686018427387904) : W n = n := by unfold W; omega
theorem W_W (n : Int) : W (W n) = W n := W_id (W_lo n) (W_hi n)
theorem W_mod (n : Int) : W n % 9223372036854775808 = n % 9223372036854775808 := by unfold W; omega
theorem W_congr {m n : Int} (h : m % 9223372036854775808 = n % 9223372036854775808) : W m = W n := by unfold W; omega
theorem W_add (a b : Int) : W (W a + b) = W (a + b) := by unfold W; omega
theorem W_add' (a b : Int) : W (a + W b) = W (a + b) := by unfold W; omega
theorem W_sub (a b : Int) : W (W a - b) = W (a - b) := by unfold W; omega
theorem W_neg (a : Int) : W (-W a) = W (-a) := by unfold W; omega
theorem W_mul (a b : Int) : W (W a * b) = W (a * b) := W_congr (by rw [Int.mul_emod, W_mod, ← Int.mul_emod])
theorem W_mul' (a b : Int) : W (a * W b) = W (a * b) := by rw [Int.mul_comm, W_mul, Int.mul_comm]
theorem wrap_W (n : Int) : wrap64 (W n) = W n := by have := W_lo n; have := W_hi n; unfold wrap64; omega
theorem wrap_id {n : Int} (h0 : -9223372036854775808 ≤ n) (h1 : n ≤ 9223372036854775807) : wrap64 n = n := by unfold wrap64; omega

/-! ### bits -/
theorem wraps_u64 (n : Int) (h₀ : 0 ≤ n) (h₁ : n < 2 ^ 64) : IntKind.u64.wrap n = n := by rw [u64_wrap]; omega
theorem and_low (x : Int) (i : Nat) (hi : i ≤ 64) (h₀ : 0 ≤ x) (h₁ : x ≤ 18446744073709551615) : bits .and .u64 x (2 ^ i - 1) = x % 2 ^ i :=
  bits_mask .u64 64 (by decide) wraps_u64 i hi x h₀ (by omega)
theorem and1 (x : Int) (h₀ : 0 ≤ x) (h₁ : x ≤ 18446744073709551615) : bits .and .u64 x 1 = x % 2 := and_low x 1 (by decide) h₀ h₁
theorem and20 (x : Int) (h₀ : 0 ≤ x) (h₁ : x ≤ 18446744073709551615) : bits .and .u64 x 1048575 = x % 1048576 := and_low x 20 (by decide) h₀ h₁
theorem or_comm (x y : Int) : bits .or .u64 x y = bits .or .u64 y x := by
  show IntKind.u64.wrap ((BitVec.ofInt _ x ||| BitVec.ofInt _ y).toNat : Int) = IntKind.u64.wrap ((BitVec.ofInt _ y ||| BitVec.ofInt _ x).toNat : Int)
  rw [BitVec.or_comm]
theorem or_join (i : Nat) (x y : Int) (hx₀ : 0 ≤ x) (hx : x % 2 ^ i = 0) (hx₁ : x ≤ 18446744073709551615) (hy₀ : 0 ≤ y) (hy : y < 2 ^ i) (hy₁ : y ≤ 18446744073709551615) : bits .or .u64 x y = x + y :=
  bits_join .u64 64 (by decide) wraps_u64 i x y hx₀ hx (by omega) hy₀ hy (by omega)

/-- A part of l bits from the place p on is taken out. -/
theorem andNot_nat (a p l : Nat) (hl : p + l ≤ 64) (ha : a < 2 ^ 64) :
    bits .andNot .u64 (a : Int) (((2 ^ l - 1) * 2 ^ p : Nat) : Int) = ((a - a / 2 ^ p % 2 ^ l * 2 ^ p : Nat) : Int) := by
  have hb : ((2 ^ l - 1) * 2 ^ p : Nat) < 2 ^ 64 := by
    have : 2 ^ p * 2 ^ l ≤ 2 ^ 64 := by rw [← Nat.pow_add]; exact Nat.pow_le_pow_right (by decide) hl
    have h2 : 0 < 2 ^ l := Nat.two_pow_pos l
    have h3 : 0 < 2 ^ p := Nat.two_pow_pos p
    rw [Nat.sub_mul, Nat.mul_comm (2 ^ l)]
    have : 1 * 2 ^ p = 2 ^ p := Nat.one_mul _
    omega
  have hs : a / 2 ^ p % 2 ^ l * 2 ^ p ≤ a := Nat.le_trans (Nat.mul_le_mul_right _ (Nat.mod_le _ _)) (Nat.div_mul_le_self _ _)
  have key : (BitVec.ofNat 64 a &&& ~~~ BitVec.ofNat 64 ((2 ^ l - 1) * 2 ^ p)) = BitVec.ofNat 64 (a - a / 2 ^ p % 2 ^ l * 2 ^ p) := by
    have hc : a - a / 2 ^ p % 2 ^ l * 2 ^ p = 2 ^ p * (2 ^ l * (a / 2 ^ p / 2 ^ l)) + a % 2 ^ p := by
      have h1 := Nat.div_add_mod a (2 ^ p)
      have h2 := Nat.div_add_mod (a / 2 ^ p) (2 ^ l)
      have h3 : 2 ^ p * (a / 2 ^ p) = 2 ^ p * (2 ^ l * (a / 2 ^ p / 2 ^ l)) + 2 ^ p * (a / 2 ^ p % 2 ^ l) := by
        rw [← Nat.mul_add, h2]
      rw [Nat.mul_comm (a / 2 ^ p % 2 ^ l)]
      omega
    apply BitVec.eq_of_getLsbD_eq
    intro i hi
    simp only [BitVec.getLsbD_and, BitVec.getLsbD_not, BitVec.getLsbD_ofNat, hi, decide_true, Bool.true_and]
    rw [hc, Nat.testBit_two_pow_mul_add _ (Nat.mod_lt _ (Nat.two_pow_pos p)), Nat.mul_comm (2 ^ l - 1), Nat.testBit_two_pow_mul]
    by_cases hp : i < p
    · have h1 : ¬ p ≤ i := by omega
      simp [hp, h1, Nat.testBit_mod_two_pow]
    · have h1 : p ≤ i := by omega
      rw [if_neg hp, Nat.testBit_two_pow_mul, Nat.testBit_two_pow_sub_one, Nat.testBit_div_two_pow, Nat.testBit_div_two_pow]
      simp only [h1, decide_true, Bool.true_and]
      by_cases hq : i - p < l
      · simp [hq]
        omega
      · have h2 : l ≤ i - p := by omega
        simp only [hq, h2, decide_true, decide_false, Bool.not_false, Bool.and_true, Bool.true_and]
        congr 1
        omega
  have hw : ∀ n : Nat, n < 2 ^ 64 → IntKind.u64.wrap (n : Int) = n := fun n h => wraps_u64 _ (Int.natCast_nonneg _) (by exact_mod_cast h)
  show IntKind.u64.wrap ((BitVec.ofInt 64 (a : Int) &&& ~~~ BitVec.ofInt 64 (((2 ^ l - 1) * 2 ^ p : Nat) : Int)).toNat : Int) = _
  rw [BitVec.ofInt_natCast, BitVec.ofInt_natCast, key, BitVec.toNat_ofNat, Nat.mod_eq_of_lt (by omega), hw _ (by omega)]

theorem clear41 (a : Int) (h₀ : 0 ≤ a) (h₁ : a ≤ 18446744073709551615) : bits .andNot .u64 a 2199023255552 = a - a / 2199023255552 % 2 * 2199023255552 := by
  obtain ⟨n, rfl⟩ := Int.eq_ofNat_of_zero_le h₀
  have h := andNot_nat n 41 1 (by decide) (by omega)
  have e : (((2 ^ 1 - 1) * 2 ^ 41 : Nat) : Int) = 2199023255552 := by decide
  rw [e] at h
  rw [h]
  omega
theorem clear42 (a : Int) (h₀ : 0 ≤ a) (h₁ : a ≤ 18446744073709551615) : bits .andNot .u64 a 4611681620380876800 = a - a / 4398046511104 % 1048576 * 4398046511104 := by
  obtain ⟨n, rfl⟩ := Int.eq_ofNat_of_zero_le h₀
  have h := andNot_nat n 42 20 (by decide) (by omega)
  have e : (((2 ^ 20 - 1) * 2 ^ 42 : Nat) : Int) = 4611681620380876800 := by decide
  rw [e] at h
  rw [h]
  omega

/-- A part is laid where nothing stands. -/
theorem or_nat (a v p l : Nat) (hl : p + l ≤ 64) (ha : a < 2 ^ 64) (hv : v < 2 ^ l) (h : a / 2 ^ p % 2 ^ l = 0) :
    bits .or .u64 (a : Int) ((v * 2 ^ p : Nat) : Int) = ((a + v * 2 ^ p : Nat) : Int) := by
  have hb : v * 2 ^ p < 2 ^ 64 := by
    have h1 : 2 ^ l * 2 ^ p ≤ 2 ^ 64 := by rw [← Nat.pow_add]; exact Nat.pow_le_pow_right (by decide) (by omega)
    have h2 : v * 2 ^ p < 2 ^ l * 2 ^ p := Nat.mul_lt_mul_of_pos_right hv (Nat.two_pow_pos p)
    omega
  rw [(bits_nat .u64 64 (by decide) wraps_u64 a (v * 2 ^ p) ha hb).2]
  congr 1
  have h1 := Nat.div_add_mod a (2 ^ p)
  have h2 := Nat.div_add_mod (a / 2 ^ p) (2 ^ l)
  have hq : a / 2 ^ p = 2 ^ l * (a / 2 ^ p / 2 ^ l) := by omega
  have hc : a = 2 ^ p * (2 ^ l * (a / 2 ^ p / 2 ^ l)) + a % 2 ^ p := by rw [← hq]; omega
  have hs : a + v * 2 ^ p = 2 ^ p * (2 ^ l * (a / 2 ^ p / 2 ^ l) + v) + a % 2 ^ p := by
    rw [Nat.mul_add, Nat.mul_comm v]
    omega
  apply Nat.eq_of_testBit_eq
  intro i
  rw [hs, Nat.testBit_or, Nat.testBit_two_pow_mul_add _ (Nat.mod_lt _ (Nat.two_pow_pos p)), Nat.mul_comm v, Nat.testBit_two_pow_mul]
  by_cases hp : i < p
  · have h3 : ¬ p ≤ i := by omega
    simp [hp, h3, Nat.testBit_mod_two_pow]
  · have h3 : p ≤ i := by omega
    rw [if_neg hp, Nat.testBit_two_pow_mul_add _ hv]
    simp only [h3, decide_true, Bool.true_and]
    have e1 : a.testBit i = (a / 2 ^ p).testBit (i - p) := by rw [Nat.testBit_div_two_pow]; congr 1; omega
    rw [e1, hq, Nat.testBit_two_pow_mul]
    by_cases hl2 : i - p < l
    · have h4 : ¬ l ≤ i - p := by omega
      simp [hl2, h4]
    · have h4 : l ≤ i - p := by omega
      rw [if_neg hl2]
      have h5 : v.testBit (i - p) = false := Nat.testBit_lt_two_pow (Nat.lt_of_lt_of_le hv (Nat.pow_le_pow_right (by decide) h4))
      simp [h4, h5, Nat.mul_div_cancel_left _ (Nat.two_pow_pos l)]

theorem lay (p l : Nat) (hl : p + l ≤ 64) (a v : Int) (h₀ : 0 ≤ a) (h₁ : a ≤ 18446744073709551615) (hv₀ : 0 ≤ v) (hv : v < 2 ^ l) (h : a / 2 ^ p % 2 ^ l = 0) :
    bits .or .u64 a (v * 2 ^ p) = a + v * 2 ^ p := by
  obtain ⟨n, rfl⟩ := Int.eq_ofNat_of_zero_le h₀
  obtain ⟨m, rfl⟩ := Int.eq_ofNat_of_zero_le hv₀
  have := or_nat n m p l hl (by omega) (by exact_mod_cast hv) (by exact_mod_cast h)
  simpa using this
end Go.Proofs.Ytljkkfcokpimkaa.X
