/- A heap that there isn't; which heaps there may be; how many words an object needs. -/
import Derived.Test.YtljkkfcokpimkaaV6
set_option linter.unusedVariables false
set_option linter.unusedSimpArgs false
set_option maxRecDepth 20000
namespace Go.Proofs.Ytljkkfcokpimkaa.X
open Go Go.RowKit

section
variable {h : H}
theorem objects0 {b bw bd : Nat} {B : List Nat} {s : Hs} (hh : HeapAt h b bw bd B s) (ht : s.top = 0) (K : AV → H → Prop) : C 59 [.ptr b 0] h K = K .nilsl h := by
  refine callA_eq (run59 ?_) K
  simp only [sh59, joinA, go_sem, reduceIte, Nat.reduceAdd, Nat.reduceSub, Nat.reduceMul, Nat.reducePow, Nat.reduceLT, Nat.reduceLeDiff, Nat.reduceEqDiff, Int.reduceAdd, Int.reduceSub, Int.reduceMul, Int.reduceNeg, Int.reducePow, Int.reduceLT, Int.reduceLE, Int.reduceEq, Int.reduceNe, Int.reduceToNat, Int.toNat_natCast, Nat.zero_add, Nat.add_zero, Nat.mul_one, Nat.one_mul, Bool.not_true, Bool.not_false, ne_eq, not_true_eq_false, not_false_eq_true, Bool.false_eq_true, top_c hh, ht, Int.natCast_zero]
  exact loop_r 0 (fun n l h' => l = [.nilsl, .int .i64 0] ∧ h' = h) ⟨rfl, rfl⟩ (by rintro n l h' ⟨rfl, rfl⟩; simp only [go_sem, reduceIte, Nat.reduceAdd, Nat.reduceSub, Nat.reduceMul, Nat.reducePow, Nat.reduceLT, Nat.reduceLeDiff, Nat.reduceEqDiff, Int.reduceAdd, Int.reduceSub, Int.reduceMul, Int.reduceNeg, Int.reducePow, Int.reduceLT, Int.reduceLE, Int.reduceEq, Int.reduceNe, Int.reduceToNat, Int.toNat_natCast, Nat.zero_add, Nat.add_zero, Nat.mul_one, Nat.one_mul, Bool.not_true, Bool.not_false, ne_eq, not_true_eq_false, not_false_eq_true, Bool.false_eq_true])
theorem newErr_range {words : Int} {L : List (Int × Int)} (e : newErr words L = 0) : 0 ≤ words ∧ words ≤ 65536 ∧ L.length ≤ 512 ∧ L.any badLay = false := by
  unfold newErr at e
  by_cases h1 : words < 0 ∨ 65536 < words
  · rw [if_pos h1] at e; cases e
  · rw [if_neg h1] at e
    by_cases h2 : 512 < L.length
    · rw [if_pos h2] at e; cases e
    · rw [if_neg h2] at e
      cases h3 : L.any badLay
      · exact ⟨by omega, by omega, by omega, rfl⟩
      · rw [h3] at e; cases e
theorem Row.one {v : AV} {n esz : Nat} {cs : List AV} (r : Row h v n esz cs) : v.leaf = true ∧ v.cells = [v] := by
  rcases r.2 with ⟨_, rfl⟩ | ⟨_, _, _, rfl, _⟩ <;> exact ⟨rfl, rfl⟩
theorem rneed_c {bx : Nat} {lays : List (Int × Int)} {lv : AV} (hc : h.cell bx 1 = some lv) (r : Row h lv lays.length 2 (lc lays)) (i n : Int) (K : AV → H → Prop) : C 53 [.ptr bx 0, .int .i64 i, .int .i64 n] h K = K (.tup [.int .i64 (needN lays i n).1, .int .i64 (needN lays i n).2]) h := by
  refine callA_eq (run53 ?_) K
  by_cases h0 : i < 0
  · have e : needN lays i n = (0, 1) := by unfold needN; rw [if_pos (.inl h0)]
    simp only [sh53, go_sem, reduceIte, Nat.reduceAdd, Nat.reduceSub, Nat.reduceMul, Nat.reducePow, Nat.reduceLT, Nat.reduceLeDiff, Nat.reduceEqDiff, Int.reduceAdd, Int.reduceSub, Int.reduceMul, Int.reduceNeg, Int.reducePow, Int.reduceLT, Int.reduceLE, Int.reduceEq, Int.reduceNe, Int.reduceToNat, Int.toNat_natCast, Nat.zero_add, Nat.add_zero, Nat.mul_one, Nat.one_mul, Bool.not_true, Bool.not_false, ne_eq, not_true_eq_false, not_false_eq_true, Bool.false_eq_true, h0, e]
  by_cases h1 : (lays.length : Int) ≤ i
  · have e : needN lays i n = (0, 1) := by unfold needN; rw [if_pos (.inr (.inl h1))]
    simp only [sh53, go_sem, reduceIte, Nat.reduceAdd, Nat.reduceSub, Nat.reduceMul, Nat.reducePow, Nat.reduceLT, Nat.reduceLeDiff, Nat.reduceEqDiff, Int.reduceAdd, Int.reduceSub, Int.reduceMul, Int.reduceNeg, Int.reducePow, Int.reduceLT, Int.reduceLE, Int.reduceEq, Int.reduceNe, Int.reduceToNat, Int.toNat_natCast, Nat.zero_add, Nat.add_zero, Nat.mul_one, Nat.one_mul, Bool.not_true, Bool.not_false, ne_eq, not_true_eq_false, not_false_eq_true, Bool.false_eq_true, hc, h0, h1, r.len, e]
  by_cases h2 : n < 0
  · have e : needN lays i n = (0, 1) := by unfold needN; rw [if_pos (.inr (.inr h2))]
    simp only [sh53, go_sem, reduceIte, Nat.reduceAdd, Nat.reduceSub, Nat.reduceMul, Nat.reducePow, Nat.reduceLT, Nat.reduceLeDiff, Nat.reduceEqDiff, Int.reduceAdd, Int.reduceSub, Int.reduceMul, Int.reduceNeg, Int.reducePow, Int.reduceLT, Int.reduceLE, Int.reduceEq, Int.reduceNe, Int.reduceToNat, Int.toNat_natCast, Nat.zero_add, Nat.add_zero, Nat.mul_one, Nat.one_mul, Bool.not_true, Bool.not_false, ne_eq, not_true_eq_false, not_false_eq_true, Bool.false_eq_true, hc, h0, h1, h2, r.len, e]
  have e0 : needN lays i n = if kindAt lays i = 1 ∧ n ≠ nAt lays i then (0, 1) else if 65536 < n then (0, 2) else if kindAt lays i = 3 then (1 + (n + 7) / 8, 0) else (1 + n, 0) := by
    unfold needN; rw [if_neg (by omega)]
  have hi : ((i.toNat : Nat) : Int) = i := by omega
  obtain ⟨bl, o, q1, q2, q3, q4⟩ := r.lay (lay_get (L := lays) (i := i) (by omega) (by omega))
  rw [hi] at q1
  rw [e0]
  generalize kindAt lays i = k at *
  generalize nAt lays i = m at *
  have e2 : IntKind.i64.wrap (1 + n) = 1 + n ∨ 65536 < n := by
    by_cases q : 65536 < n
    · exact .inr q
    · exact .inl (i64_id (by omega) (by omega))
  by_cases k1 : k = 1
  · subst k1
    by_cases k2 : m = n
    · subst k2
      have z : ¬ ((1 : Int) = 1 ∧ m ≠ m) := by simp
      by_cases k3 : 65536 < m
      · simp only [sh53, go_sem, reduceIte, Nat.reduceAdd, Nat.reduceSub, Nat.reduceMul, Nat.reducePow, Nat.reduceLT, Nat.reduceLeDiff, Nat.reduceEqDiff, Int.reduceAdd, Int.reduceSub, Int.reduceMul, Int.reduceNeg, Int.reducePow, Int.reduceLT, Int.reduceLE, Int.reduceEq, Int.reduceNe, Int.reduceToNat, Int.toNat_natCast, Nat.zero_add, Nat.add_zero, Nat.mul_one, Nat.one_mul, Bool.not_true, Bool.not_false, ne_eq, not_true_eq_false, not_false_eq_true, Bool.false_eq_true, hc, h0, h1, h2, r.len, q1, q2, q3, k3, and_false]
      · rcases e2 with e2 | e2
        · simp only [sh53, go_sem, reduceIte, Nat.reduceAdd, Nat.reduceSub, Nat.reduceMul, Nat.reducePow, Nat.reduceLT, Nat.reduceLeDiff, Nat.reduceEqDiff, Int.reduceAdd, Int.reduceSub, Int.reduceMul, Int.reduceNeg, Int.reducePow, Int.reduceLT, Int.reduceLE, Int.reduceEq, Int.reduceNe, Int.reduceToNat, Int.toNat_natCast, Nat.zero_add, Nat.add_zero, Nat.mul_one, Nat.one_mul, Bool.not_true, Bool.not_false, ne_eq, not_true_eq_false, not_false_eq_true, Bool.false_eq_true, joinA, hc, h0, h1, h2, r.len, q1, q2, q3, k3, e2, and_false]
        · exact absurd e2 k3
    · have k2' : ¬ n = m := fun q => k2 q.symm
      simp only [sh53, go_sem, reduceIte, Nat.reduceAdd, Nat.reduceSub, Nat.reduceMul, Nat.reducePow, Nat.reduceLT, Nat.reduceLeDiff, Nat.reduceEqDiff, Int.reduceAdd, Int.reduceSub, Int.reduceMul, Int.reduceNeg, Int.reducePow, Int.reduceLT, Int.reduceLE, Int.reduceEq, Int.reduceNe, Int.reduceToNat, Int.toNat_natCast, Nat.zero_add, Nat.add_zero, Nat.mul_one, Nat.one_mul, Bool.not_true, Bool.not_false, ne_eq, not_true_eq_false, not_false_eq_true, Bool.false_eq_true, hc, h0, h1, h2, r.len, q1, q2, q3, k2, k2', and_self]
  · by_cases k3 : 65536 < n
    · simp only [sh53, go_sem, reduceIte, Nat.reduceAdd, Nat.reduceSub, Nat.reduceMul, Nat.reducePow, Nat.reduceLT, Nat.reduceLeDiff, Nat.reduceEqDiff, Int.reduceAdd, Int.reduceSub, Int.reduceMul, Int.reduceNeg, Int.reducePow, Int.reduceLT, Int.reduceLE, Int.reduceEq, Int.reduceNe, Int.reduceToNat, Int.toNat_natCast, Nat.zero_add, Nat.add_zero, Nat.mul_one, Nat.one_mul, Bool.not_true, Bool.not_false, ne_eq, not_true_eq_false, not_false_eq_true, Bool.false_eq_true, hc, h0, h1, h2, r.len, q1, q2, q3, k1, k3, false_and]
    · by_cases k4 : k = 3
      · subst k4
        simp only [sh53, go_sem, reduceIte, Nat.reduceAdd, Nat.reduceSub, Nat.reduceMul, Nat.reducePow, Nat.reduceLT, Nat.reduceLeDiff, Nat.reduceEqDiff, Int.reduceAdd, Int.reduceSub, Int.reduceMul, Int.reduceNeg, Int.reducePow, Int.reduceLT, Int.reduceLE, Int.reduceEq, Int.reduceNe, Int.reduceToNat, Int.toNat_natCast, Nat.zero_add, Nat.add_zero, Nat.mul_one, Nat.one_mul, Bool.not_true, Bool.not_false, ne_eq, not_true_eq_false, not_false_eq_true, Bool.false_eq_true, joinA, hc, h0, h1, h2, r.len, q1, q2, q3, k3, false_and]
        refine loop_r (n + 8).toNat (fun c l h' => ∃ j : Int, 0 ≤ j ∧ j % 8 = 0 ∧ j < n + 8 ∧ l = [.int .i64 (1 + j / 8), .int .i64 j] ∧ h' = h ∧ c = (n + 8 - j).toNat) ⟨0, by omega, by omega, by omega, rfl, rfl, by omega⟩ ?_
        rintro c l h' ⟨j, j0, j8, jn, rfl, rfl, rfl⟩
        by_cases hlt : j < n
        · have x1 : IntKind.i64.wrap (1 + j / 8 + 1) = 1 + (j + 8) / 8 := by rw [i64_id (by omega) (by omega)]; omega
          have x2 : IntKind.i64.wrap (j + 8) = j + 8 := i64_id (by omega) (by omega)
          simp only [go_sem, reduceIte, Nat.reduceAdd, Nat.reduceSub, Nat.reduceMul, Nat.reducePow, Nat.reduceLT, Nat.reduceLeDiff, Nat.reduceEqDiff, Int.reduceAdd, Int.reduceSub, Int.reduceMul, Int.reduceNeg, Int.reducePow, Int.reduceLT, Int.reduceLE, Int.reduceEq, Int.reduceNe, Int.reduceToNat, Int.toNat_natCast, Nat.zero_add, Nat.add_zero, Nat.mul_one, Nat.one_mul, Bool.not_true, Bool.not_false, ne_eq, not_true_eq_false, not_false_eq_true, Bool.false_eq_true, hlt, x1, x2]
          exact ⟨_, by omega, j + 8, by omega, by omega, by omega, rfl, rfl⟩
        · have x3 : 1 + j / 8 = 1 + (n + 7) / 8 := by omega
          simp only [go_sem, reduceIte, Nat.reduceAdd, Nat.reduceSub, Nat.reduceMul, Nat.reducePow, Nat.reduceLT, Nat.reduceLeDiff, Nat.reduceEqDiff, Int.reduceAdd, Int.reduceSub, Int.reduceMul, Int.reduceNeg, Int.reducePow, Int.reduceLT, Int.reduceLE, Int.reduceEq, Int.reduceNe, Int.reduceToNat, Int.toNat_natCast, Nat.zero_add, Nat.add_zero, Nat.mul_one, Nat.one_mul, Bool.not_true, Bool.not_false, ne_eq, not_true_eq_false, not_false_eq_true, Bool.false_eq_true, hlt, x3]
      · rcases e2 with e2 | e2
        · simp only [sh53, go_sem, reduceIte, Nat.reduceAdd, Nat.reduceSub, Nat.reduceMul, Nat.reducePow, Nat.reduceLT, Nat.reduceLeDiff, Nat.reduceEqDiff, Int.reduceAdd, Int.reduceSub, Int.reduceMul, Int.reduceNeg, Int.reducePow, Int.reduceLT, Int.reduceLE, Int.reduceEq, Int.reduceNe, Int.reduceToNat, Int.toNat_natCast, Nat.zero_add, Nat.add_zero, Nat.mul_one, Nat.one_mul, Bool.not_true, Bool.not_false, ne_eq, not_true_eq_false, not_false_eq_true, Bool.false_eq_true, joinA, hc, h0, h1, h2, r.len, q1, q2, q3, k1, k3, k4, e2, false_and]
        · exact absurd e2 k3
end
end Go.Proofs.Ytljkkfcokpimkaa.X
