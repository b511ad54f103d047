/- The parts of a head do not touch one another. -/
import Derived.Test.YtljkkfcokpimkaaWl
set_option linter.unusedVariables false
set_option linter.unusedSimpArgs false
set_option maxRecDepth 20000
namespace Go.Proofs.Ytljkkfcokpimkaa.X
open Go Go.RowKit

theorem and20_i64 {x : Int} : bits .and .i64 x 1048575 = x % 1048576 := by
  show IntKind.i64.wrap ((BitVec.ofInt 64 x &&& BitVec.ofInt 64 1048575).toNat : Int) = _
  rw [BitVec.toNat_and, BitVec.toNat_ofInt, BitVec.toNat_ofInt]
  have e : ((1048575 : Int) % ((2 ^ 64 : Nat) : Int)).toNat = 2 ^ 20 - 1 := by decide
  rw [e, Nat.and_two_pow_sub_one_eq_mod, i64_wrap]
  unfold wrap64
  omega
/-- The parts of a word, laid side by side. -/
def partsN (s n b k : Int) : Int := s * 2 + n * 2097152 + 1 + b * 2199023255552 + k * 4398046511104
theorem headN_parts (s n : Int) : headN s n = partsN (s % 1048576) (n % 1048576) 0 0 := by unfold headN partsN; omega
theorem mark_parts {s n b k x : Int} (hs0 : 0 ≤ s) (hs1 : s < 1048576) (hn0 : 0 ≤ n) (hn1 : n < 1048576) (hb0 : 0 ≤ b) (hb1 : b < 2) (hk0 : 0 ≤ k) (hk1 : k < 1048576) : withN (partsN s n b k) 41 1 x = partsN s n (x % 2) k := by
  unfold withN partsN; simp only [Int.reducePow]; omega
theorem turn_parts {s n b k x : Int} (hs0 : 0 ≤ s) (hs1 : s < 1048576) (hn0 : 0 ≤ n) (hn1 : n < 1048576) (hb0 : 0 ≤ b) (hb1 : b < 2) (hk0 : 0 ≤ k) (hk1 : k < 1048576) : withN (partsN s n b k) 42 20 x = partsN s n b (x % 1048576) := by
  unfold withN partsN; simp only [Int.reducePow]; omega
theorem parts_facts {s n b k : Int} (hs0 : 0 ≤ s) (hs1 : s < 1048576) (hn0 : 0 ≤ n) (hn1 : n < 1048576) (hb0 : 0 ≤ b) (hb1 : b < 2) (hk0 : 0 ≤ k) (hk1 : k < 1048576) :
    0 ≤ partsN s n b k ∧ partsN s n b k < 18446744073709551616 ∧ partsN s n b k % 2 = 1 ∧ partsN s n b k / 2 % 1048576 = s ∧ partsN s n b k / 2097152 % 1048576 = n ∧ partsN s n b k / 2199023255552 % 2 = b ∧ partsN s n b k / 4398046511104 % 1048576 = k := by
  unfold partsN; omega
@[go_sem] theorem cell_same {h : H} {b off e : Nat} {cs : List AV} {o : Bool} : (h.set b (.live cs e o)).cell b off = cs[off]? := by
  unfold H.cell; rw [H.get_same]
section
variable {h : H}
theorem wordApart_c (s n k j : Int) (on : Bool) : C 9 [.agg [.int .i64 s, .int .i64 n, .int .i64 k, .int .i64 j], .bool on] h yes := by
  refine run9 ?_
  have S := Int.emod_nonneg s (show (1048576 : Int) ≠ 0 by decide); have S' := Int.emod_lt_of_pos s (show (0 : Int) < 1048576 by decide)
  have N := Int.emod_nonneg n (show (1048576 : Int) ≠ 0 by decide); have N' := Int.emod_lt_of_pos n (show (0 : Int) < 1048576 by decide)
  have Kk := Int.emod_nonneg k (show (1048576 : Int) ≠ 0 by decide); have K' := Int.emod_lt_of_pos k (show (0 : Int) < 1048576 by decide)
  have J := Int.emod_nonneg j (show (1048576 : Int) ≠ 0 by decide); have J' := Int.emod_lt_of_pos j (show (0 : Int) < 1048576 by decide)
  generalize hb : (if on then (1 : Int) else 0) = b
  have B : 0 ≤ b ∧ b < 2 := by subst hb; cases on <;> decide
  generalize hb' : (if !on then (1 : Int) else 0) = b'
  have B' : 0 ≤ b' ∧ b' < 2 := by subst hb'; cases on <;> decide
  have b2 : b % 2 = b := by omega
  have b2' : b' % 2 = b' := by omega
  have k2 : k % 1048576 % 1048576 = k % 1048576 := by omega
  have j2 : j % 1048576 % 1048576 = j % 1048576 := by omega
  have hon : decide (b = 1) = on := by subst hb; cases on <;> rfl
  have P0 := parts_facts S S' N N' (show (0 : Int) ≤ 0 by decide) (by decide) (show (0 : Int) ≤ 0 by decide) (by decide)
  have P1 := parts_facts S S' N N' B.1 B.2 (show (0 : Int) ≤ 0 by decide) (by decide)
  have P2 := parts_facts S S' N N' B.1 B.2 Kk K'
  have P3 := parts_facts S S' N N' B.1 B.2 J J'
  have P4 := parts_facts S S' N N' B'.1 B'.2 Kk K'
  have m1 := fun (K : AV → H → Prop) h => mark_c (h := h) P0.1 P0.2.1 on K
  have m2 := fun (K : AV → H → Prop) h => mark_c (h := h) P2.1 P2.2.1 (!on) K
  have m3 := fun (K : AV → H → Prop) h => mark_c (h := h) P4.1 P4.2.1 on K
  rw [hb] at m1 m3
  rw [hb'] at m2
  have q1 : withN (partsN (s % 1048576) (n % 1048576) 0 0) 41 1 b = partsN (s % 1048576) (n % 1048576) b 0 := by rw [mark_parts S S' N N' (by decide) (by decide) (by decide) (by decide), b2]
  have q2 : withN (partsN (s % 1048576) (n % 1048576) b (k % 1048576)) 41 1 b' = partsN (s % 1048576) (n % 1048576) b' (k % 1048576) := by rw [mark_parts S S' N N' B.1 B.2 Kk K', b2']
  have q3 : withN (partsN (s % 1048576) (n % 1048576) b' (k % 1048576)) 41 1 b = partsN (s % 1048576) (n % 1048576) b (k % 1048576) := by rw [mark_parts S S' N N' B'.1 B'.2 Kk K', b2]
  have q4 : withN (partsN (s % 1048576) (n % 1048576) b 0) 42 20 k = partsN (s % 1048576) (n % 1048576) b (k % 1048576) := turn_parts S S' N N' B.1 B.2 (by decide) (by decide)
  have q5 : withN (partsN (s % 1048576) (n % 1048576) b (k % 1048576)) 42 20 j = partsN (s % 1048576) (n % 1048576) b (j % 1048576) := turn_parts S S' N N' B.1 B.2 Kk K'
  have q6 : withN (partsN (s % 1048576) (n % 1048576) b (j % 1048576)) 42 20 k = partsN (s % 1048576) (n % 1048576) b (k % 1048576) := turn_parts S S' N N' B.1 B.2 J J'
  simp only [sh9, AV.cells]
  refine ⟨rfl, fun c hc => ?_⟩
  simp only [go_sem, reduceIte, Nat.reduceAdd, Nat.reduceSub, Nat.reduceMul, Nat.reducePow, Nat.reduceLT, Nat.reduceLeDiff, Nat.reduceEqDiff, Int.reduceAdd, Int.reduceSub, Int.reduceMul, Int.reduceNeg, Int.reducePow, Int.reduceLT, Int.reduceLE, Int.reduceEq, Int.reduceNe, Int.reduceToNat, Int.toNat_natCast, Nat.zero_add, Nat.add_zero, Nat.mul_one, Nat.one_mul, Bool.not_true, Bool.not_false, ne_eq, not_true_eq_false, not_false_eq_true, Bool.false_eq_true, head_c, headN_parts, m1, q1, turn_c P1.1 P1.2.1, q4, turn_c P2.1 P2.2.1, q5, isImm_c P2.1 P2.2.1, P2.2.2.1, shape_c P2.1 P2.2.1, P2.2.2.2.1, and20_i64, len_c P2.1 P2.2.1, P2.2.2.2.2.1, marked_c P2.1 P2.2.1, P2.2.2.2.2.2.1, hon, turned_c P2.1 P2.2.1, P2.2.2.2.2.2.2,
    turned_c P3.1 P3.2.1, P3.2.2.2.2.2.2, turn_c P3.1 P3.2.1, q6, m2, q2, m3, q3]
  exact lives_c fun h' _ => rfl
theorem law9 (h : H) (ls : List (List AV)) (hl : LiesA h [.st [.int .i64, .int .i64, .int .i64, .int .i64], .bool] ls) : C 9 (argsOf [.st [.int .i64, .int .i64, .int .i64, .int .i64], .bool] ls) h yes := by
  obtain ⟨l0, ls, rfl, h0, hl⟩ := liesA_cons hl
  obtain ⟨l1, ls, rfl, h1, hl⟩ := liesA_cons hl
  obtain rfl := liesA_nil hl
  obtain ⟨b, rfl⟩ := lies_bool h1
  simp only [Lies] at h0
  simp only [LiesL] at h0
  obtain ⟨a1, t1, rfl, g1, a2, t2, rfl, g2, a3, t3, rfl, g3, a4, t4, rfl, g4, rfl⟩ := h0
  obtain ⟨x1, rfl, _, _⟩ := lies_i64 g1
  obtain ⟨x2, rfl, _, _⟩ := lies_i64 g2
  obtain ⟨x3, rfl, _, _⟩ := lies_i64 g3
  obtain ⟨x4, rfl, _, _⟩ := lies_i64 g4
  exact wordApart_c x1 x2 x3 x4 b
end
end Go.Proofs.Ytljkkfcokpimkaa.X
