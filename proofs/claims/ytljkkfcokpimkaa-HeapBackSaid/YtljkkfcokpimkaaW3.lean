/- Numbers as bytes, by the program and by the reference; the examples. -/
import Derived.Test.YtljkkfcokpimkaaW2
set_option linter.unusedVariables false
set_option linter.unusedSimpArgs false
set_option maxRecDepth 20000
namespace Go.Proofs.Ytljkkfcokpimkaa.X
open Go Go.RowKit

@[go_sem] theorem fillV_int {z : AV} {k : IntKind} {n : Int} : fillV [z] [(0, 1, .int k n)] = some [.int k n] := by
  simp [fillV, AV.cells, leaves, AV.leaf, overlay]
theorem u8_or128' : ∀ a : Fin 256, bits .or .u8 (a.val : Int) 128 = ((a.val % 128 + 128 : Nat) : Int) := by decide +kernel
theorem u8_or128n {a : Nat} (h : a < 256) : bits .or .u8 (a : Int) 128 = ((a % 128 + 128 : Nat) : Int) := u8_or128' ⟨a, h⟩
theorem u8_and127' : ∀ a : Fin 256, bits .and .u8 (a.val : Int) 127 = ((a.val % 128 : Nat) : Int) := by decide +kernel
theorem u8_and127n {a : Nat} (h : a < 256) : bits .and .u8 (a : Int) 127 = ((a % 128 : Nat) : Int) := u8_and127' ⟨a, h⟩
theorem allones (k : IntKind) : BitVec.ofInt k.bits (if k.signed then -1 else k.max) = BitVec.allOnes k.bits := by cases k <;> decide
theorem xor_u64 {a : Int} (h0 : 0 ≤ a) (h1 : a < 18446744073709551616) : bits .xor .u64 (if IntKind.u64.signed then -1 else IntKind.u64.max) a = 18446744073709551615 - a := by
  show IntKind.u64.wrap ((BitVec.ofInt 64 (if IntKind.u64.signed then -1 else IntKind.u64.max) ^^^ BitVec.ofInt 64 a).toNat : Int) = _
  have e := allones .u64
  rw [show IntKind.u64.bits = 64 from rfl] at e
  rw [e, BitVec.allOnes_xor, BitVec.toNat_not, BitVec.toNat_ofInt, u64_wrap]
  omega
theorem xor_i64 {a : Int} (h0 : -9223372036854775808 ≤ a) (h1 : a < 9223372036854775808) : bits .xor .i64 (if IntKind.i64.signed then -1 else IntKind.i64.max) a = -a - 1 := by
  show IntKind.i64.wrap ((BitVec.ofInt 64 (if IntKind.i64.signed then -1 else IntKind.i64.max) ^^^ BitVec.ofInt 64 a).toNat : Int) = _
  have e := allones .i64
  rw [show IntKind.i64.bits = 64 from rfl] at e
  rw [e, BitVec.allOnes_xor, BitVec.toNat_not, BitVec.toNat_ofInt, i64_wrap]
  unfold wrap64
  omega
theorem putL_ge {x : Nat} (h : ¬ x < 128) : putL x = (x % 128 + 128) :: putL (x / 128) := by rw [putL, if_neg h]
theorem putL_small {x : Nat} (h : x < 128) : putL x = [x] := by rw [putL, if_pos h]
theorem putL_len64 {x : Nat} (h : x < 2 ^ 64) : (putL x).length ≤ 10 := putL_len 9 (Nat.lt_of_lt_of_le h (by decide))
section
variable {h : H}
/-- What puts: bytes are laid one by one. -/
def Putting (h : H) (y : Nat) (x : Nat) (v : AV) (h' : H) : Prop := ∃ pre : List Nat, Own h h' 5 1 v pre.length (bc pre) ∧ Fr [] h h' ∧ pre ++ putL x = putL y
theorem put_c {n : Int} (h0 : -9223372036854775808 ≤ n) (h1 : n ≤ 9223372036854775807) {K : AV → H → Prop}
    (hK : ∀ v h', Own h h' 5 1 v (putL (zig n)).length (bc (putL (zig n))) → Fr [] h h' → K v h') : C 46 [.int .i64 n] h K := by
  refine run46 ?_
  have hz := zig_lt h0 h1
  have hlen := putL_len64 hz
  simp only [sh46, go_sem, reduceIte, Nat.reduceAdd, Nat.reduceSub, Nat.reduceMul, Nat.reducePow, Nat.reduceLT, Nat.reduceLeDiff, Nat.reduceEqDiff, Int.reduceAdd, Int.reduceSub, Int.reduceMul, Int.reduceNeg, Int.reducePow, Int.reduceLT, Int.reduceLE, Int.reduceEq, Int.reduceNe, Int.reduceToNat, Int.toNat_natCast, Nat.zero_add, Nat.add_zero, Nat.mul_one, Nat.one_mul, Bool.not_true, Bool.not_false, ne_eq, not_true_eq_false, not_false_eq_true, Bool.false_eq_true]
  refine join_r (fun J => J (.int .u64 (zig n)) h) ?_ ?_
  · refine join_r (fun J => ∀ x v h', x < 128 → Putting h (zig n) x v h' → J (.int .u64 (x : Nat)) v h') ?_ ?_
    · rintro x v h' hx ⟨pre, ho, hf, hp⟩
      have e : IntKind.u8.wrap (x : Int) = x := by rw [u8_wrap]; omega
      simp only [go_sem, reduceIte, Nat.reduceAdd, Nat.reduceSub, Nat.reduceMul, Nat.reducePow, Nat.reduceLT, Nat.reduceLeDiff, Nat.reduceEqDiff, Int.reduceAdd, Int.reduceSub, Int.reduceMul, Int.reduceNeg, Int.reducePow, Int.reduceLT, Int.reduceLE, Int.reduceEq, Int.reduceNe, Int.reduceToNat, Int.toNat_natCast, Nat.zero_add, Nat.add_zero, Nat.mul_one, Nat.one_mul, Bool.not_true, Bool.not_false, ne_eq, not_true_eq_false, not_false_eq_true, Bool.false_eq_true, e]
      rw [putL_small hx] at hp
      refine append_one (esz := 1) ho rfl (by decide) (bc_leaves _) rfl hf ?_ fun v' h'' a1 a2 _ => hK v' h'' ?_ a2
      · have := congrArg List.length hp
        simp at this
        unfold most; omega
      · rw [← hp, bc_append, List.length_append]; exact a1
    · intro J hJ
      refine loop_r (zig n) (fun k l h' => ∃ x v, l = [.int .u64 (x : Nat), v] ∧ x < 2 ^ 64 ∧ Putting h (zig n) x v h' ∧ x = k) ⟨zig n, .nilsl, rfl, hz, ⟨[], Own.nil .., Fr.refl _ _, rfl⟩, rfl⟩ ?_
      rintro k l h' ⟨x, v, rfl, hx, ⟨pre, ho, hf, hp⟩, rfl⟩
      simp only [go_sem, reduceIte, Nat.reduceAdd, Nat.reduceSub, Nat.reduceMul, Nat.reducePow, Nat.reduceLT, Nat.reduceLeDiff, Nat.reduceEqDiff, Int.reduceAdd, Int.reduceSub, Int.reduceMul, Int.reduceNeg, Int.reducePow, Int.reduceLT, Int.reduceLE, Int.reduceEq, Int.reduceNe, Int.reduceToNat, Int.toNat_natCast, Nat.zero_add, Nat.add_zero, Nat.mul_one, Nat.one_mul, Bool.not_true, Bool.not_false, ne_eq, not_true_eq_false, not_false_eq_true, Bool.false_eq_true]
      split
      · rename_i hge
        have hge : ¬ x < 128 := by omega
        have e : IntKind.u8.wrap (x : Int) = ((x % 256 : Nat) : Int) := by rw [u8_wrap]; omega
        have e2 : bits .or .u8 ((x % 256 : Nat) : Int) 128 = ((x % 128 + 128 : Nat) : Int) := by rw [u8_or128n (by omega)]; congr 1; omega
        simp only [go_sem, reduceIte, Nat.reduceAdd, Nat.reduceSub, Nat.reduceMul, Nat.reducePow, Nat.reduceLT, Nat.reduceLeDiff, Nat.reduceEqDiff, Int.reduceAdd, Int.reduceSub, Int.reduceMul, Int.reduceNeg, Int.reducePow, Int.reduceLT, Int.reduceLE, Int.reduceEq, Int.reduceNe, Int.reduceToNat, Int.toNat_natCast, Nat.zero_add, Nat.add_zero, Nat.mul_one, Nat.one_mul, Bool.not_true, Bool.not_false, ne_eq, not_true_eq_false, not_false_eq_true, Bool.false_eq_true, e, e2]
        rw [putL_ge hge] at hp
        refine append_one (esz := 1) ho rfl (by decide) (bc_leaves _) rfl hf ?_ fun v' h'' a1 a2 _ => ?_
        · have := congrArg List.length hp
          simp at this
          unfold most; omega
        · refine ⟨x / 128, by omega, x / 128, v', ?_, by omega, ⟨pre ++ [x % 128 + 128], ?_, a2, ?_⟩, rfl⟩
          · rfl
          · rw [bc_append, List.length_append]; exact a1
          · rw [← hp]; simp
      · rename_i hlt
        exact hJ x v h' (by omega) ⟨pre, ho, hf, hp⟩
  · intro J hJ
    have e1 : IntKind.u64.wrap (IntKind.u64.wrap n * 2) = n * 2 % 18446744073709551616 := by rw [u64_wrap, u64_wrap]; omega
    simp only [go_sem, reduceIte, Nat.reduceAdd, Nat.reduceSub, Nat.reduceMul, Nat.reducePow, Nat.reduceLT, Nat.reduceLeDiff, Nat.reduceEqDiff, Int.reduceAdd, Int.reduceSub, Int.reduceMul, Int.reduceNeg, Int.reducePow, Int.reduceLT, Int.reduceLE, Int.reduceEq, Int.reduceNe, Int.reduceToNat, Int.toNat_natCast, Nat.zero_add, Nat.add_zero, Nat.mul_one, Nat.one_mul, Bool.not_true, Bool.not_false, ne_eq, not_true_eq_false, not_false_eq_true, Bool.false_eq_true, e1]
    split
    · rename_i hn
      rw [xor_u64 (by omega) (by omega)]
      have : 18446744073709551615 - n * 2 % 18446744073709551616 = (zig n : Int) := by unfold zig; rw [if_pos hn]; omega
      rw [this]; exact hJ
    · rename_i hn
      have : n * 2 % 18446744073709551616 = (zig n : Int) := by unfold zig; rw [if_neg hn]; omega
      rw [this]; exact hJ
theorem rput_c {n : Int} (h0 : -9223372036854775808 ≤ n) (h1 : n ≤ 9223372036854775807) {K : AV → H → Prop}
    (hK : ∀ v h', Own h h' 5 1 v (putL (zig n)).length (bc (putL (zig n))) → Fr [] h h' → K v h') : C 47 [.int .i64 n] h K := by
  refine run47 ?_
  have hz := zig_lt h0 h1
  have hlen := putL_len64 hz
  simp only [sh47, go_sem, reduceIte, Nat.reduceAdd, Nat.reduceSub, Nat.reduceMul, Nat.reducePow, Nat.reduceLT, Nat.reduceLeDiff, Nat.reduceEqDiff, Int.reduceAdd, Int.reduceSub, Int.reduceMul, Int.reduceNeg, Int.reducePow, Int.reduceLT, Int.reduceLE, Int.reduceEq, Int.reduceNe, Int.reduceToNat, Int.toNat_natCast, Nat.zero_add, Nat.add_zero, Nat.mul_one, Nat.one_mul, Bool.not_true, Bool.not_false, ne_eq, not_true_eq_false, not_false_eq_true, Bool.false_eq_true]
  refine join_r (fun J => J (.int .u64 (zig n)) h) ?_ ?_
  · refine join_r (fun J => ∀ x v h', x < 128 → Putting h (zig n) x v h' → J (.int .u64 (x : Nat)) v h') ?_ ?_
    · rintro x v h' hx ⟨pre, ho, hf, hp⟩
      have e : IntKind.u8.wrap (x : Int) = x := by rw [u8_wrap]; omega
      simp only [go_sem, reduceIte, Nat.reduceAdd, Nat.reduceSub, Nat.reduceMul, Nat.reducePow, Nat.reduceLT, Nat.reduceLeDiff, Nat.reduceEqDiff, Int.reduceAdd, Int.reduceSub, Int.reduceMul, Int.reduceNeg, Int.reducePow, Int.reduceLT, Int.reduceLE, Int.reduceEq, Int.reduceNe, Int.reduceToNat, Int.toNat_natCast, Nat.zero_add, Nat.add_zero, Nat.mul_one, Nat.one_mul, Bool.not_true, Bool.not_false, ne_eq, not_true_eq_false, not_false_eq_true, Bool.false_eq_true, e]
      rw [putL_small hx] at hp
      refine append_one (esz := 1) ho rfl (by decide) (bc_leaves _) rfl hf ?_ fun v' h'' a1 a2 _ => hK v' h'' ?_ a2
      · have := congrArg List.length hp
        simp at this
        unfold most; omega
      · rw [← hp, bc_append, List.length_append]; exact a1
    · intro J hJ
      refine loop_r (zig n) (fun k l h' => ∃ x v, l = [.int .u64 (x : Nat), v] ∧ x < 2 ^ 64 ∧ Putting h (zig n) x v h' ∧ x = k) ⟨zig n, .nilsl, rfl, hz, ⟨[], Own.nil .., Fr.refl _ _, rfl⟩, rfl⟩ ?_
      rintro k l h' ⟨x, v, rfl, hx, ⟨pre, ho, hf, hp⟩, rfl⟩
      simp only [go_sem, reduceIte, Nat.reduceAdd, Nat.reduceSub, Nat.reduceMul, Nat.reducePow, Nat.reduceLT, Nat.reduceLeDiff, Nat.reduceEqDiff, Int.reduceAdd, Int.reduceSub, Int.reduceMul, Int.reduceNeg, Int.reducePow, Int.reduceLT, Int.reduceLE, Int.reduceEq, Int.reduceNe, Int.reduceToNat, Int.toNat_natCast, Nat.zero_add, Nat.add_zero, Nat.mul_one, Nat.one_mul, Bool.not_true, Bool.not_false, ne_eq, not_true_eq_false, not_false_eq_true, Bool.false_eq_true]
      split
      · rename_i hge
        have hge : ¬ x < 128 := by omega
        have e0 : (x : Int).tmod 128 = ((x % 128 : Nat) : Int) := by rw [Int.tmod_eq_emod_of_nonneg (by omega)]; omega
        have e : IntKind.u8.wrap (IntKind.u64.wrap (((x % 128 : Nat) : Int) + 128)) = ((x % 128 + 128 : Nat) : Int) := by rw [u64_id (by omega) (by omega), u8_wrap]; omega
        have e2 : IntKind.u64.wrap ((x : Int).tdiv 128) = ((x / 128 : Nat) : Int) := by rw [Int.tdiv_eq_ediv_of_nonneg (by omega), u64_id (by omega) (by omega)]; omega
        simp only [go_sem, reduceIte, Nat.reduceAdd, Nat.reduceSub, Nat.reduceMul, Nat.reducePow, Nat.reduceLT, Nat.reduceLeDiff, Nat.reduceEqDiff, Int.reduceAdd, Int.reduceSub, Int.reduceMul, Int.reduceNeg, Int.reducePow, Int.reduceLT, Int.reduceLE, Int.reduceEq, Int.reduceNe, Int.reduceToNat, Int.toNat_natCast, Nat.zero_add, Nat.add_zero, Nat.mul_one, Nat.one_mul, Bool.not_true, Bool.not_false, ne_eq, not_true_eq_false, not_false_eq_true, Bool.false_eq_true, e0, e]
        rw [putL_ge hge] at hp
        refine append_one (esz := 1) ho rfl (by decide) (bc_leaves _) rfl hf ?_ fun v' h'' a1 a2 _ => ?_
        · have := congrArg List.length hp
          simp at this
          unfold most; omega
        · simp only [go_sem, reduceIte, Nat.reduceAdd, Nat.reduceSub, Nat.reduceMul, Nat.reducePow, Nat.reduceLT, Nat.reduceLeDiff, Nat.reduceEqDiff, Int.reduceAdd, Int.reduceSub, Int.reduceMul, Int.reduceNeg, Int.reducePow, Int.reduceLT, Int.reduceLE, Int.reduceEq, Int.reduceNe, Int.reduceToNat, Int.toNat_natCast, Nat.zero_add, Nat.add_zero, Nat.mul_one, Nat.one_mul, Bool.not_true, Bool.not_false, ne_eq, not_true_eq_false, not_false_eq_true, Bool.false_eq_true, e2]
          refine ⟨x / 128, by omega, x / 128, v', rfl, by omega, ⟨pre ++ [x % 128 + 128], ?_, a2, ?_⟩, rfl⟩
          · rw [bc_append, List.length_append]; exact a1
          · rw [← hp]; simp
      · rename_i hlt
        exact hJ x v h' (by omega) ⟨pre, ho, hf, hp⟩
  · intro J hJ
    have e1 : IntKind.u64.wrap (IntKind.u64.wrap n * 2) = n * 2 % 18446744073709551616 := by rw [u64_wrap, u64_wrap]; omega
    simp only [go_sem, reduceIte, Nat.reduceAdd, Nat.reduceSub, Nat.reduceMul, Nat.reducePow, Nat.reduceLT, Nat.reduceLeDiff, Nat.reduceEqDiff, Int.reduceAdd, Int.reduceSub, Int.reduceMul, Int.reduceNeg, Int.reducePow, Int.reduceLT, Int.reduceLE, Int.reduceEq, Int.reduceNe, Int.reduceToNat, Int.toNat_natCast, Nat.zero_add, Nat.add_zero, Nat.mul_one, Nat.one_mul, Bool.not_true, Bool.not_false, ne_eq, not_true_eq_false, not_false_eq_true, Bool.false_eq_true, e1]
    split
    · rename_i hn
      have : IntKind.u64.wrap (IntKind.u64.wrap (IntKind.u64.wrap (IntKind.i64.wrap (0 - IntKind.i64.wrap (n + 1))) * 2) + 1) = (zig n : Int) := by
        rw [i64_id (n := n + 1) (by omega) (by omega), i64_id (by omega) (by omega), u64_id (n := 0 - (n + 1)) (by omega) (by omega), u64_id (n := (0 - (n + 1)) * 2) (by omega) (by omega), u64_id (by omega) (by omega)]
        unfold zig; rw [if_pos hn]; omega
      simp only [go_sem, reduceIte, Nat.reduceAdd, Nat.reduceSub, Nat.reduceMul, Nat.reducePow, Nat.reduceLT, Nat.reduceLeDiff, Nat.reduceEqDiff, Int.reduceAdd, Int.reduceSub, Int.reduceMul, Int.reduceNeg, Int.reducePow, Int.reduceLT, Int.reduceLE, Int.reduceEq, Int.reduceNe, Int.reduceToNat, Int.toNat_natCast, Nat.zero_add, Nat.add_zero, Nat.mul_one, Nat.one_mul, Bool.not_true, Bool.not_false, ne_eq, not_true_eq_false, not_false_eq_true, Bool.false_eq_true, this]
      exact hJ
    · rename_i hn
      have : n * 2 % 18446744073709551616 = (zig n : Int) := by unfold zig; rw [if_neg hn]; omega
      rw [this]; exact hJ
end
end Go.Proofs.Ytljkkfcokpimkaa.X
