/- The heap's bytes, read and set; an object's shape and length. -/
import Derived.Test.YtljkkfcokpimkaaV11
set_option linter.unusedVariables false
set_option linter.unusedSimpArgs false
set_option maxRecDepth 20000
namespace Go.Proofs.Ytljkkfcokpimkaa.X
open Go Go.RowKit

/-- A word's byte. -/
def byteW (w : Int) (k : Nat) : Int := w / 2 ^ (8 * k) % 256
/-- A word with another byte. -/
def putW (w : Int) (k : Nat) (c : Int) : Int := w - w / 2 ^ (8 * k) % 256 * 2 ^ (8 * k) + c * 2 ^ (8 * k)
theorem cut8 {w : Int} {k : Nat} (h0 : 0 ≤ w) (h1 : w < 18446744073709551616) (hk : k < 8) : bits .andNot .u64 w (255 * 2 ^ (8 * k)) = w - w / 2 ^ (8 * k) % 256 * 2 ^ (8 * k) := by
  obtain ⟨n, rfl⟩ := Int.eq_ofNat_of_zero_le h0
  have h := andNot_nat n (8 * k) 8 (by omega) (by omega)
  have e : (((2 ^ 8 - 1) * 2 ^ (8 * k) : Nat) : Int) = 255 * 2 ^ (8 * k) := by push_cast; rfl
  rw [e] at h
  rw [h]
  have hs : n / 2 ^ (8 * k) % 2 ^ 8 * 2 ^ (8 * k) ≤ n := Nat.le_trans (Nat.mul_le_mul_right _ (Nat.mod_le _ _)) (Nat.div_mul_le_self _ _)
  rw [Int.ofNat_sub hs]
  push_cast
  rfl
theorem put8 {w : Int} {k : Nat} {c : Nat} (h0 : 0 ≤ w) (h1 : w < 18446744073709551616) (hk : k < 8) (hc : c < 256) : bits .or .u64 (bits .andNot .u64 w (255 * 2 ^ (8 * k))) (c * 2 ^ (8 * k)) = putW w k c := by
  rw [cut8 h0 h1 hk]
  obtain ⟨n, rfl⟩ := Int.eq_ofNat_of_zero_le h0
  have hs : n / 2 ^ (8 * k) % 2 ^ 8 * 2 ^ (8 * k) ≤ n := Nat.le_trans (Nat.mul_le_mul_right _ (Nat.mod_le _ _)) (Nat.div_mul_le_self _ _)
  have hz : (n - n / 2 ^ (8 * k) % 2 ^ 8 * 2 ^ (8 * k)) / 2 ^ (8 * k) % 2 ^ 8 = 0 := by
    have hc : n - n / 2 ^ (8 * k) % 2 ^ 8 * 2 ^ (8 * k) = 2 ^ (8 * k) * (2 ^ 8 * (n / 2 ^ (8 * k) / 2 ^ 8)) + n % 2 ^ (8 * k) := by
      have h1 := Nat.div_add_mod n (2 ^ (8 * k))
      have h2 := Nat.div_add_mod (n / 2 ^ (8 * k)) (2 ^ 8)
      have h3 : 2 ^ (8 * k) * (n / 2 ^ (8 * k)) = 2 ^ (8 * k) * (2 ^ 8 * (n / 2 ^ (8 * k) / 2 ^ 8)) + 2 ^ (8 * k) * (n / 2 ^ (8 * k) % 2 ^ 8) := by
        rw [← Nat.mul_add, h2]
      rw [Nat.mul_comm (n / 2 ^ (8 * k) % 2 ^ 8)]
      omega
    rw [hc, Nat.mul_add_div (Nat.two_pow_pos _), Nat.div_eq_of_lt (Nat.mod_lt _ (Nat.two_pow_pos _)), Nat.add_zero, Nat.mul_mod_right]
  have h := or_nat (n - n / 2 ^ (8 * k) % 2 ^ 8 * 2 ^ (8 * k)) c (8 * k) 8 (by omega) (by omega) (by omega) hz
  unfold putW
  rw [Int.natCast_add, Int.ofNat_sub hs] at h
  push_cast at h ⊢
  exact h
theorem byteW_range (w : Int) (k : Nat) : 0 ≤ byteW w k ∧ byteW w k < 256 := by unfold byteW; omega
theorem u8_byte (w : Int) (k : Nat) : IntKind.u8.wrap (w / 2 ^ (8 * k)) = byteW w k := by
  simp [IntKind.wrap, IntKind.bits, IntKind.signed, byteW]
section
variable {h : H} {b bw bd : Nat} {B : List Nat} {s : Hs} {os : List Ob}
theorem shape_a (hh : HeapAt h b bw bd B s) (A : Abs s os) (a : Int) (K : AV → H → Prop) : C 81 [.ptr b 0, .int .i64 a] h K =
    K (match findO os a with | some o => .tup [.int .i64 o.sh, .int .i64 0] | none => .tup [.int .i64 0, .int .i64 1]) h := by
  refine callA_eq (run81 ?_) K
  obtain ⟨lv, cc, r, _⟩ := hh.cells
  cases hf : findO os a with
  | none => simp only [sh81, go_sem, reduceIte, Nat.reduceAdd, Nat.reduceSub, Nat.reduceMul, Nat.reducePow, Nat.reduceLT, Nat.reduceLeDiff, Nat.reduceEqDiff, Int.reduceAdd, Int.reduceSub, Int.reduceMul, Int.reduceNeg, Int.reducePow, Int.reduceLT, Int.reduceLE, Int.reduceEq, Int.reduceNe, Int.reduceToNat, Int.toNat_natCast, Nat.zero_add, Nat.add_zero, Nat.mul_one, Nat.one_mul, Bool.not_true, Bool.not_false, ne_eq, not_true_eq_false, not_false_eq_true, Bool.false_eq_true, is_a hh A, hf, Option.isSome_none]
  | some o =>
    obtain ⟨t1, t2, t3, t4, t5, t6, t7, t8, t9, t10, t11⟩ := A.at hf
    have g3 := A.good.top
    have hp := row_pos o
    have i1 : a < (s.words.length : Nat) := by omega
    have wr := A.good.wdr a
    have sc : ∀ (h : H) K, C 33 [.int .u64 (s.wd a)] h K = K (.int .i64 o.sh) h := fun h K => by rw [shape_c wr.1 wr.2]; unfold shapeOf at t2; rw [t2]
    simp only [sh81, go_sem, reduceIte, Nat.reduceAdd, Nat.reduceSub, Nat.reduceMul, Nat.reducePow, Nat.reduceLT, Nat.reduceLeDiff, Nat.reduceEqDiff, Int.reduceAdd, Int.reduceSub, Int.reduceMul, Int.reduceNeg, Int.reducePow, Int.reduceLT, Int.reduceLE, Int.reduceEq, Int.reduceNe, Int.reduceToNat, Int.toNat_natCast, Nat.zero_add, Nat.add_zero, Nat.mul_one, Nat.one_mul, Bool.not_true, Bool.not_false, ne_eq, not_true_eq_false, not_false_eq_true, Bool.false_eq_true, is_a hh A, hf, Option.isSome_some, cc, t8, i1, hh.word t8 i1, sc]
theorem len_a (hh : HeapAt h b bw bd B s) (A : Abs s os) (a : Int) (K : AV → H → Prop) : C 72 [.ptr b 0, .int .i64 a] h K =
    K (match findO os a with | some o => .tup [.int .i64 o.n, .int .i64 0] | none => .tup [.int .i64 0, .int .i64 1]) h := by
  refine callA_eq (run72 ?_) K
  obtain ⟨lv, cc, r, _⟩ := hh.cells
  cases hf : findO os a with
  | none => simp only [sh72, go_sem, reduceIte, Nat.reduceAdd, Nat.reduceSub, Nat.reduceMul, Nat.reducePow, Nat.reduceLT, Nat.reduceLeDiff, Nat.reduceEqDiff, Int.reduceAdd, Int.reduceSub, Int.reduceMul, Int.reduceNeg, Int.reducePow, Int.reduceLT, Int.reduceLE, Int.reduceEq, Int.reduceNe, Int.reduceToNat, Int.toNat_natCast, Nat.zero_add, Nat.add_zero, Nat.mul_one, Nat.one_mul, Bool.not_true, Bool.not_false, ne_eq, not_true_eq_false, not_false_eq_true, Bool.false_eq_true, is_a hh A, hf, Option.isSome_none]
  | some o =>
    obtain ⟨t1, t2, t3, t4, t5, t6, t7, t8, t9, t10, t11⟩ := A.at hf
    have g3 := A.good.top
    have hp := row_pos o
    have i1 : a < (s.words.length : Nat) := by omega
    have wr := A.good.wdr a
    have lc' : ∀ (h : H) K, C 35 [.int .u64 (s.wd a)] h K = K (.int .i64 o.n) h := fun h K => by rw [len_c wr.1 wr.2]; unfold lenOf at t3; rw [t3]
    simp only [sh72, go_sem, reduceIte, Nat.reduceAdd, Nat.reduceSub, Nat.reduceMul, Nat.reducePow, Nat.reduceLT, Nat.reduceLeDiff, Nat.reduceEqDiff, Int.reduceAdd, Int.reduceSub, Int.reduceMul, Int.reduceNeg, Int.reducePow, Int.reduceLT, Int.reduceLE, Int.reduceEq, Int.reduceNe, Int.reduceToNat, Int.toNat_natCast, Nat.zero_add, Nat.add_zero, Nat.mul_one, Nat.one_mul, Bool.not_true, Bool.not_false, ne_eq, not_true_eq_false, not_false_eq_true, Bool.false_eq_true, is_a hh A, hf, Option.isSome_some, cc, t8, i1, hh.word t8 i1, lc']
theorem byte_a (hh : HeapAt h b bw bd B s) (A : Abs s os) {a i : Int} (K : AV → H → Prop) : C 66 [.ptr b 0, .int .i64 a, .int .i64 i] h K =
    K (if hasO s.lays os a i true then .tup [.int .u8 (byteW (s.wd (a + 1 + i / 8)) (i % 8).toNat), .int .i64 0] else .tup [.int .u8 0, .int .i64 1]) h := by
  refine callA_eq (run66 ?_) K
  obtain ⟨lv, cc, r, _⟩ := hh.cells
  cases hq : hasO s.lays os a i true with
  | false => simp only [sh66, go_sem, reduceIte, Nat.reduceAdd, Nat.reduceSub, Nat.reduceMul, Nat.reducePow, Nat.reduceLT, Nat.reduceLeDiff, Nat.reduceEqDiff, Int.reduceAdd, Int.reduceSub, Int.reduceMul, Int.reduceNeg, Int.reducePow, Int.reduceLT, Int.reduceLE, Int.reduceEq, Int.reduceNe, Int.reduceToNat, Int.toNat_natCast, Nat.zero_add, Nat.add_zero, Nat.mul_one, Nat.one_mul, Bool.not_true, Bool.not_false, ne_eq, not_true_eq_false, not_false_eq_true, Bool.false_eq_true, has_a hh A, hq]
  | true =>
    obtain ⟨o, hf, k1, k2, k3⟩ := hasO_some hq
    obtain ⟨t1, t2, t3, t4, t5, t6, t7, t8, t9, t10, t11⟩ := A.at hf
    have g3 := A.good.top; have g1 := A.good.wlen
    rw [if_pos (by simpa using k1)] at t10
    have q1 : i.tdiv 8 = i / 8 := Int.tdiv_eq_ediv_of_nonneg k2
    have q2 : i.tmod 8 = i % 8 := Int.tmod_eq_emod_of_nonneg k2
    have e0 : IntKind.i64.wrap (i / 8) = i / 8 := i64_id (by omega) (by omega)
    have e1 : IntKind.i64.wrap (IntKind.i64.wrap (a + 1) + i / 8) = a + 1 + i / 8 := by rw [i64_id (n := a + 1) (by omega) (by omega), i64_id (by omega) (by omega)]
    have e2 : IntKind.i64.wrap (i % 8 * 8) = i % 8 * 8 := i64_id (by omega) (by omega)
    have e3 : (i % 8 * 8).toNat = 8 * (i % 8).toNat := by omega
    have b0 : 0 ≤ i % 8 * 8 := by omega
    have b1 : i % 8 * 8 ≤ 64 := by omega
    have i0 : 0 ≤ a + 1 + i / 8 := by omega
    have i1 : a + 1 + i / 8 < (s.words.length : Nat) := by omega
    simp only [sh66, go_sem, reduceIte, Nat.reduceAdd, Nat.reduceSub, Nat.reduceMul, Nat.reducePow, Nat.reduceLT, Nat.reduceLeDiff, Nat.reduceEqDiff, Int.reduceAdd, Int.reduceSub, Int.reduceMul, Int.reduceNeg, Int.reducePow, Int.reduceLT, Int.reduceLE, Int.reduceEq, Int.reduceNe, Int.reduceToNat, Int.toNat_natCast, Nat.zero_add, Nat.add_zero, Nat.mul_one, Nat.one_mul, Bool.not_true, Bool.not_false, ne_eq, not_true_eq_false, not_false_eq_true, Bool.false_eq_true, has_a hh A, hq, cc, q1, q2, e0, e1, e2, e3, i0, i1, hh.word i0 i1, b0, b1, u8_byte]
theorem setByte_a (hh : HeapAt h b bw bd B s) (A : Abs s os) {a i : Int} {c : Nat} (hc : c < 256) (K : AV → H → Prop) : C 65 [.ptr b 0, .int .i64 a, .int .i64 i, .int .u8 (c : Nat)] h K =
    K (.int .i64 (if hasO s.lays os a i true then 0 else 1)) (if hasO s.lays os a i true then h.set bw (.live (wc (s.put (a + 1 + i / 8) (putW (s.wd (a + 1 + i / 8)) (i % 8).toNat c)).words) 25 true) else h) := by
  refine callA_eq (run65 ?_) K
  obtain ⟨lv, cc, r, _⟩ := hh.cells
  cases hq : hasO s.lays os a i true with
  | false => simp only [sh65, go_sem, reduceIte, Nat.reduceAdd, Nat.reduceSub, Nat.reduceMul, Nat.reducePow, Nat.reduceLT, Nat.reduceLeDiff, Nat.reduceEqDiff, Int.reduceAdd, Int.reduceSub, Int.reduceMul, Int.reduceNeg, Int.reducePow, Int.reduceLT, Int.reduceLE, Int.reduceEq, Int.reduceNe, Int.reduceToNat, Int.toNat_natCast, Nat.zero_add, Nat.add_zero, Nat.mul_one, Nat.one_mul, Bool.not_true, Bool.not_false, ne_eq, not_true_eq_false, not_false_eq_true, Bool.false_eq_true, has_a hh A, hq]
  | true =>
    obtain ⟨o, hf, k1, k2, k3⟩ := hasO_some hq
    obtain ⟨t1, t2, t3, t4, t5, t6, t7, t8, t9, t10, t11⟩ := A.at hf
    have g3 := A.good.top; have g1 := A.good.wlen
    rw [if_pos (by simpa using k1)] at t10
    have q1 : i.tdiv 8 = i / 8 := Int.tdiv_eq_ediv_of_nonneg k2
    have q2 : i.tmod 8 = i % 8 := Int.tmod_eq_emod_of_nonneg k2
    have e0 : IntKind.i64.wrap (i / 8) = i / 8 := i64_id (by omega) (by omega)
    have e1 : IntKind.i64.wrap (IntKind.i64.wrap (a + 1) + i / 8) = a + 1 + i / 8 := by rw [i64_id (n := a + 1) (by omega) (by omega), i64_id (by omega) (by omega)]
    have e2 : IntKind.i64.wrap (i % 8 * 8) = i % 8 * 8 := i64_id (by omega) (by omega)
    have e3 : (i % 8 * 8).toNat = 8 * (i % 8).toNat := by omega
    have b0 : 0 ≤ i % 8 * 8 := by omega
    have b1 : i % 8 * 8 ≤ 64 := by omega
    have i0 : 0 ≤ a + 1 + i / 8 := by omega
    have i1 : a + 1 + i / 8 < (s.words.length : Nat) := by omega
    have k8 : (i % 8).toNat < 8 := by omega
    have hp : ∀ k : Nat, k < 8 → (0 : Int) ≤ 2 ^ (8 * k) ∧ (2 : Int) ^ (8 * k) ≤ 72057594037927936 := by decide
    have hp := hp _ k8
    have e4 : IntKind.u64.wrap (255 * 2 ^ (8 * (i % 8).toNat)) = 255 * 2 ^ (8 * (i % 8).toNat) := u64_id (by omega) (by omega)
    have e5 : IntKind.u64.wrap ((c : Int) * 2 ^ (8 * (i % 8).toNat)) = c * 2 ^ (8 * (i % 8).toNat) := by
      have h1 : (c : Int) * 2 ^ (8 * (i % 8).toNat) ≤ 255 * 2 ^ (8 * (i % 8).toNat) := Int.mul_le_mul_of_nonneg_right (by omega) hp.1
      have h2 : 0 ≤ (c : Int) * 2 ^ (8 * (i % 8).toNat) := Int.mul_nonneg (by omega) hp.1
      exact u64_id h2 (by omega)
    have e6 : IntKind.u64.wrap (c : Int) = c := u64_id (by omega) (by omega)
    have wr := A.good.wdr (a + 1 + i / 8)
    simp only [sh65, go_sem, reduceIte, Nat.reduceAdd, Nat.reduceSub, Nat.reduceMul, Nat.reducePow, Nat.reduceLT, Nat.reduceLeDiff, Nat.reduceEqDiff, Int.reduceAdd, Int.reduceSub, Int.reduceMul, Int.reduceNeg, Int.reducePow, Int.reduceLT, Int.reduceLE, Int.reduceEq, Int.reduceNe, Int.reduceToNat, Int.toNat_natCast, Nat.zero_add, Nat.add_zero, Nat.mul_one, Nat.one_mul, Bool.not_true, Bool.not_false, ne_eq, not_true_eq_false, not_false_eq_true, Bool.false_eq_true, has_a hh A, hq, cc, q1, q2, e0, e1, e2, e3, i0, i1, hh.word i0 i1, b0, b1, e4, e5, e6, put8 wr.1 wr.2 k8 hc, hh.st_word i0 i1]
end
end Go.Proofs.Ytljkkfcokpimkaa.X
