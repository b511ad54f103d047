/- A heap that there isn't; which heaps there may be; how many words an object needs. -/
import Derived.Test.YtljkkfcokpimkaaV6
set_option linter.unusedVariables false
set_option linter.unusedSimpArgs false
set_option maxRecDepth 20000
namespace Go.Proofs.Ytljkkfcokpimkaa.X
open Go Go.RowKit

section
variable {h : H}
theorem law18 (h : H) (ls : List (List AV)) (hl : LiesA h [.int .i64, .int .i64, .int .u64] ls) : C 18 (argsOf [.int .i64, .int .i64, .int .u64] ls) h yes := by
  obtain ⟨l0, ls, rfl, h0, hl⟩ := liesA_cons hl
  obtain ⟨l1, ls, rfl, h1, hl⟩ := liesA_cons hl
  obtain ⟨l2, ls, rfl, h2, hl⟩ := liesA_cons hl
  obtain rfl := liesA_nil hl
  obtain ⟨a, rfl, a0, a1⟩ := lies_i64 h0
  obtain ⟨b, rfl, b0, b1⟩ := lies_i64 h1
  obtain ⟨w, rfl, w0, w1⟩ := lies_u64 h2
  show C 18 [.int .i64 a, .int .i64 b, .int .u64 w] h yes
  refine run18 ?_
  have eF : fillV [.int .i64 0, .int .i64 0, .int .i64 0, .int .i64 0, .int .i64 0, .int .i64 0, .int .i64 0, .int .i64 0, .int .i64 0, .int .i64 0] [(0, 1, .int .i64 1), (1, 1, .int .i64 1), (2, 1, .int .i64 1), (3, 1, .int .i64 1), (4, 1, .int .i64 1), (5, 1, .int .i64 1), (6, 1, .int .i64 1), (7, 1, .int .i64 1), (8, 1, .int .i64 1), (9, 1, .int .i64 1)] = some (List.replicate 10 (.int .i64 1)) := rfl
  simp only [sh18, go_sem, reduceIte, Nat.reduceAdd, Nat.reduceSub, Nat.reduceMul, Nat.reducePow, Nat.reduceLT, Nat.reduceLeDiff, Nat.reduceEqDiff, Int.reduceAdd, Int.reduceSub, Int.reduceMul, Int.reduceNeg, Int.reducePow, Int.reduceLT, Int.reduceLE, Int.reduceEq, Int.reduceNe, Int.reduceToNat, Int.toNat_natCast, Nat.zero_add, Nat.add_zero, Nat.mul_one, Nat.one_mul, Bool.not_true, Bool.not_false, ne_eq, not_true_eq_false, not_false_eq_true, Bool.false_eq_true, need_nil, alloc_nil, shape_nil, len_nil, get_nil, byte_nil, text_nil, store_nil]
  refine join_r (fun (J : H → Prop) => J h) ?_ fun J hJ => ?_
  · simp only [go_sem, reduceIte, Nat.reduceAdd, Nat.reduceSub, Nat.reduceMul, Nat.reducePow, Nat.reduceLT, Nat.reduceLeDiff, Nat.reduceEqDiff, Int.reduceAdd, Int.reduceSub, Int.reduceMul, Int.reduceNeg, Int.reducePow, Int.reduceLT, Int.reduceLE, Int.reduceEq, Int.reduceNe, Int.reduceToNat, Int.toNat_natCast, Nat.zero_add, Nat.add_zero, Nat.mul_one, Nat.one_mul, Bool.not_true, Bool.not_false, ne_eq, not_true_eq_false, not_false_eq_true, Bool.false_eq_true, is_nil, fits_nil, load_nil, size_nil, top_nil, objects_nil]
    exact exLives_c fun h' _ => rfl
  · simp only [set_nil, setByte_nil, close_nil, cvA_i, valA_some, eF, buildA_s]
    refine loop_r 10 (fun k l h' => ∃ i : Nat, l = [.int .i64 i] ∧ h' = h ∧ i ≤ 10 ∧ k = 10 - i) ⟨0, rfl, rfl, by decide, rfl⟩ ?_
    rintro k l h' ⟨i, rfl, rfl, hi, rfl⟩
    by_cases hlt : (i : Int) < 10
    · have hx : ixArrA 10 1 none (.agg (List.replicate 10 (.int .i64 1))) (.int .i64 i) = some (.int .i64 1) := by
        have : (0 : Int) ≤ i ∧ (i : Int) < (10 : Nat) := by omega
        simp only [ixArrA, this, and_self, if_true, partOf, Int.toNat_natCast, Nat.mul_one]
        rw [List.getElem?_replicate, if_pos (by omega)]
      have e : IntKind.i64.wrap ((i : Int) + 1) = ((i + 1 : Nat) : Int) := by rw [i64_id (by omega) (by omega)]; rfl
      simp only [go_sem, reduceIte, Nat.reduceAdd, Nat.reduceSub, Nat.reduceMul, Nat.reducePow, Nat.reduceLT, Nat.reduceLeDiff, Nat.reduceEqDiff, Int.reduceAdd, Int.reduceSub, Int.reduceMul, Int.reduceNeg, Int.reducePow, Int.reduceLT, Int.reduceLE, Int.reduceEq, Int.reduceNe, Int.reduceToNat, Int.toNat_natCast, Nat.zero_add, Nat.add_zero, Nat.mul_one, Nat.one_mul, Bool.not_true, Bool.not_false, ne_eq, not_true_eq_false, not_false_eq_true, Bool.false_eq_true, hlt, hx, e]
      exact ⟨10 - (i + 1), by omega, i + 1, rfl, by omega, rfl⟩
    · simp only [go_sem, reduceIte, Nat.reduceAdd, Nat.reduceSub, Nat.reduceMul, Nat.reducePow, Nat.reduceLT, Nat.reduceLeDiff, Nat.reduceEqDiff, Int.reduceAdd, Int.reduceSub, Int.reduceMul, Int.reduceNeg, Int.reducePow, Int.reduceLT, Int.reduceLE, Int.reduceEq, Int.reduceNe, Int.reduceToNat, Int.toNat_natCast, Nat.zero_add, Nat.add_zero, Nat.mul_one, Nat.one_mul, Bool.not_true, Bool.not_false, ne_eq, not_true_eq_false, not_false_eq_true, Bool.false_eq_true, hlt]; exact hJ
theorem objects0 {b bw bd : Nat} {B : List Nat} {s : Hs} (hh : HeapAt h b bw bd B s) (ht : s.top = 0) (K : AV → H → Prop) : C 59 [.ptr b 0] h K = K .nilsl h := by
  refine callA_eq (run59 ?_) K
  simp only [sh59, joinA, go_sem, reduceIte, Nat.reduceAdd, Nat.reduceSub, Nat.reduceMul, Nat.reducePow, Nat.reduceLT, Nat.reduceLeDiff, Nat.reduceEqDiff, Int.reduceAdd, Int.reduceSub, Int.reduceMul, Int.reduceNeg, Int.reducePow, Int.reduceLT, Int.reduceLE, Int.reduceEq, Int.reduceNe, Int.reduceToNat, Int.toNat_natCast, Nat.zero_add, Nat.add_zero, Nat.mul_one, Nat.one_mul, Bool.not_true, Bool.not_false, ne_eq, not_true_eq_false, not_false_eq_true, Bool.false_eq_true, top_c hh, ht, Int.natCast_zero]
  exact loop_r 0 (fun n l h' => l = [.nilsl, .int .i64 0] ∧ h' = h) ⟨rfl, rfl⟩ (by rintro n l h' ⟨rfl, rfl⟩; simp only [go_sem, reduceIte, Nat.reduceAdd, Nat.reduceSub, Nat.reduceMul, Nat.reducePow, Nat.reduceLT, Nat.reduceLeDiff, Nat.reduceEqDiff, Int.reduceAdd, Int.reduceSub, Int.reduceMul, Int.reduceNeg, Int.reducePow, Int.reduceLT, Int.reduceLE, Int.reduceEq, Int.reduceNe, Int.reduceToNat, Int.toNat_natCast, Nat.zero_add, Nat.add_zero, Nat.mul_one, Nat.one_mul, Bool.not_true, Bool.not_false, ne_eq, not_true_eq_false, not_false_eq_true, Bool.false_eq_true])
theorem newErr_range {words : Int} {L : List (Int × Int)} (e : newErr words L = 0) : 0 ≤ words ∧ words ≤ 65536 ∧ L.length ≤ 512 ∧ L.any badLay = false := by
  unfold newErr at e
  by_cases h1 : words < 0 ∨ 65536 < words
  · rw [if_pos h1] at e; cases e
  · rw [if_neg h1] at e
    by_cases h2 : 512 < L.length
    · rw [if_pos h2] at e; cases e
    · rw [if_neg h2] at e
      cases h3 : L.any badLay
      · exact ⟨by omega, by omega, by omega, rfl⟩
      · rw [h3] at e; cases e
theorem law12 (h : H) (ls : List (List AV)) (hl : LiesA h [.int .i64, .sl (.st [.int .i64, .int .i64])] ls) : C 12 (argsOf [.int .i64, .sl (.st [.int .i64, .int .i64])] ls) h yes := by
  obtain ⟨l0, ls, rfl, h0, hl⟩ := liesA_cons hl
  obtain ⟨l1, ls, rfl, h1, hl⟩ := liesA_cons hl
  obtain rfl := liesA_nil hl
  obtain ⟨w, rfl, w0, w1⟩ := lies_i64 h0
  obtain ⟨v, L, rfl, hr, hL, hm⟩ := lies_lays h1
  show C 12 [.int .i64 w, v] h yes
  refine run12 ?_
  unfold sh12
  refine new_c hr hm (fun he h1 f1 => ?_) (fun he h1 b bw bd B f1 hfr hh => ?_)
  · simp only [go_sem, reduceIte, Nat.reduceAdd, Nat.reduceSub, Nat.reduceMul, Nat.reducePow, Nat.reduceLT, Nat.reduceLeDiff, Nat.reduceEqDiff, Int.reduceAdd, Int.reduceSub, Int.reduceMul, Int.reduceNeg, Int.reducePow, Int.reduceLT, Int.reduceLE, Int.reduceEq, Int.reduceNe, Int.reduceToNat, Int.toNat_natCast, Nat.zero_add, Nat.add_zero, Nat.mul_one, Nat.one_mul, Bool.not_true, Bool.not_false, ne_eq, not_true_eq_false, not_false_eq_true, Bool.false_eq_true]
    refine check_c (hr.fr f1) hm fun h2 f2 => ?_
    simp only [go_sem, reduceIte, Nat.reduceAdd, Nat.reduceSub, Nat.reduceMul, Nat.reducePow, Nat.reduceLT, Nat.reduceLeDiff, Nat.reduceEqDiff, Int.reduceAdd, Int.reduceSub, Int.reduceMul, Int.reduceNeg, Int.reducePow, Int.reduceLT, Int.reduceLE, Int.reduceEq, Int.reduceNe, Int.reduceToNat, Int.toNat_natCast, Nat.zero_add, Nat.add_zero, Nat.mul_one, Nat.one_mul, Bool.not_true, Bool.not_false, ne_eq, not_true_eq_false, not_false_eq_true, Bool.false_eq_true, b_nn', he]
    exact exLives_c fun h' _ => rfl
  · obtain ⟨r1, r2, r3, r4⟩ := newErr_range he
    simp only [go_sem, reduceIte, Nat.reduceAdd, Nat.reduceSub, Nat.reduceMul, Nat.reducePow, Nat.reduceLT, Nat.reduceLeDiff, Nat.reduceEqDiff, Int.reduceAdd, Int.reduceSub, Int.reduceMul, Int.reduceNeg, Int.reducePow, Int.reduceLT, Int.reduceLE, Int.reduceEq, Int.reduceNe, Int.reduceToNat, Int.toNat_natCast, Nat.zero_add, Nat.add_zero, Nat.mul_one, Nat.one_mul, Bool.not_true, Bool.not_false, ne_eq, not_true_eq_false, not_false_eq_true, Bool.false_eq_true]
    refine check_c (hr.fr f1) hm fun h2 f2 => ?_
    have hh2 := hh.fr0 f2
    have e1 : ((newHs w.toNat L).words.length : Int) = w := by simp [newHs]; omega
    have e2 : ((newHs w.toNat L).top : Int) = 0 := rfl
    simp only [go_sem, reduceIte, Nat.reduceAdd, Nat.reduceSub, Nat.reduceMul, Nat.reducePow, Nat.reduceLT, Nat.reduceLeDiff, Nat.reduceEqDiff, Int.reduceAdd, Int.reduceSub, Int.reduceMul, Int.reduceNeg, Int.reducePow, Int.reduceLT, Int.reduceLE, Int.reduceEq, Int.reduceNe, Int.reduceToNat, Int.toNat_natCast, Nat.zero_add, Nat.add_zero, Nat.mul_one, Nat.one_mul, Bool.not_true, Bool.not_false, ne_eq, not_true_eq_false, not_false_eq_true, Bool.false_eq_true, he, b_pn', b_pn, size_c hh2, top_c hh2, objects0 hh2 rfl, e1, e2]
    exact exLives_c fun h' _ => rfl
theorem Row.one {v : AV} {n esz : Nat} {cs : List AV} (r : Row h v n esz cs) : v.leaf = true ∧ v.cells = [v] := by
  rcases r.2 with ⟨_, rfl⟩ | ⟨_, _, _, rfl, _⟩ <;> exact ⟨rfl, rfl⟩
theorem rneed_c {bx : Nat} {lays : List (Int × Int)} {lv : AV} (hc : h.cell bx 1 = some lv) (r : Row h lv lays.length 2 (lc lays)) (i n : Int) (K : AV → H → Prop) : C 53 [.ptr bx 0, .int .i64 i, .int .i64 n] h K = K (.tup [.int .i64 (needN lays i n).1, .int .i64 (needN lays i n).2]) h := by
  refine callA_eq (run53 ?_) K
  by_cases h0 : i < 0
  · have e : needN lays i n = (0, 1) := by unfold needN; rw [if_pos (.inl h0)]
    simp only [sh53, go_sem, reduceIte, Nat.reduceAdd, Nat.reduceSub, Nat.reduceMul, Nat.reducePow, Nat.reduceLT, Nat.reduceLeDiff, Nat.reduceEqDiff, Int.reduceAdd, Int.reduceSub, Int.reduceMul, Int.reduceNeg, Int.reducePow, Int.reduceLT, Int.reduceLE, Int.reduceEq, Int.reduceNe, Int.reduceToNat, Int.toNat_natCast, Nat.zero_add, Nat.add_zero, Nat.mul_one, Nat.one_mul, Bool.not_true, Bool.not_false, ne_eq, not_true_eq_false, not_false_eq_true, Bool.false_eq_true, h0, e]
  by_cases h1 : (lays.length : Int) ≤ i
  · have e : needN lays i n = (0, 1) := by unfold needN; rw [if_pos (.inr (.inl h1))]
    simp only [sh53, go_sem, reduceIte, Nat.reduceAdd, Nat.reduceSub, Nat.reduceMul, Nat.reducePow, Nat.reduceLT, Nat.reduceLeDiff, Nat.reduceEqDiff, Int.reduceAdd, Int.reduceSub, Int.reduceMul, Int.reduceNeg, Int.reducePow, Int.reduceLT, Int.reduceLE, Int.reduceEq, Int.reduceNe, Int.reduceToNat, Int.toNat_natCast, Nat.zero_add, Nat.add_zero, Nat.mul_one, Nat.one_mul, Bool.not_true, Bool.not_false, ne_eq, not_true_eq_false, not_false_eq_true, Bool.false_eq_true, hc, h0, h1, r.len, e]
  by_cases h2 : n < 0
  · have e : needN lays i n = (0, 1) := by unfold needN; rw [if_pos (.inr (.inr h2))]
    simp only [sh53, go_sem, reduceIte, Nat.reduceAdd, Nat.reduceSub, Nat.reduceMul, Nat.reducePow, Nat.reduceLT, Nat.reduceLeDiff, Nat.reduceEqDiff, Int.reduceAdd, Int.reduceSub, Int.reduceMul, Int.reduceNeg, Int.reducePow, Int.reduceLT, Int.reduceLE, Int.reduceEq, Int.reduceNe, Int.reduceToNat, Int.toNat_natCast, Nat.zero_add, Nat.add_zero, Nat.mul_one, Nat.one_mul, Bool.not_true, Bool.not_false, ne_eq, not_true_eq_false, not_false_eq_true, Bool.false_eq_true, hc, h0, h1, h2, r.len, e]
  have e0 : needN lays i n = if kindAt lays i = 1 ∧ n ≠ nAt lays i then (0, 1) else if 65536 < n then (0, 2) else if kindAt lays i = 3 then (1 + (n + 7) / 8, 0) else (1 + n, 0) := by
    unfold needN; rw [if_neg (by omega)]
  have hi : ((i.toNat : Nat) : Int) = i := by omega
  obtain ⟨bl, o, q1, q2, q3, q4⟩ := r.lay (lay_get (L := lays) (i := i) (by omega) (by omega))
  rw [hi] at q1
  rw [e0]
  generalize kindAt lays i = k at *
  generalize nAt lays i = m at *
  have e2 : IntKind.i64.wrap (1 + n) = 1 + n ∨ 65536 < n := by
    by_cases q : 65536 < n
    · exact .inr q
    · exact .inl (i64_id (by omega) (by omega))
  by_cases k1 : k = 1
  · subst k1
    by_cases k2 : m = n
    · subst k2
      have z : ¬ ((1 : Int) = 1 ∧ m ≠ m) := by simp
      by_cases k3 : 65536 < m
      · simp only [sh53, go_sem, reduceIte, Nat.reduceAdd, Nat.reduceSub, Nat.reduceMul, Nat.reducePow, Nat.reduceLT, Nat.reduceLeDiff, Nat.reduceEqDiff, Int.reduceAdd, Int.reduceSub, Int.reduceMul, Int.reduceNeg, Int.reducePow, Int.reduceLT, Int.reduceLE, Int.reduceEq, Int.reduceNe, Int.reduceToNat, Int.toNat_natCast, Nat.zero_add, Nat.add_zero, Nat.mul_one, Nat.one_mul, Bool.not_true, Bool.not_false, ne_eq, not_true_eq_false, not_false_eq_true, Bool.false_eq_true, hc, h0, h1, h2, r.len, q1, q2, q3, k3, and_false]
      · rcases e2 with e2 | e2
        · simp only [sh53, go_sem, reduceIte, Nat.reduceAdd, Nat.reduceSub, Nat.reduceMul, Nat.reducePow, Nat.reduceLT, Nat.reduceLeDiff, Nat.reduceEqDiff, Int.reduceAdd, Int.reduceSub, Int.reduceMul, Int.reduceNeg, Int.reducePow, Int.reduceLT, Int.reduceLE, Int.reduceEq, Int.reduceNe, Int.reduceToNat, Int.toNat_natCast, Nat.zero_add, Nat.add_zero, Nat.mul_one, Nat.one_mul, Bool.not_true, Bool.not_false, ne_eq, not_true_eq_false, not_false_eq_true, Bool.false_eq_true, joinA, hc, h0, h1, h2, r.len, q1, q2, q3, k3, e2, and_false]
        · exact absurd e2 k3
    · have k2' : ¬ n = m := fun q => k2 q.symm
      simp only [sh53, go_sem, reduceIte, Nat.reduceAdd, Nat.reduceSub, Nat.reduceMul, Nat.reducePow, Nat.reduceLT, Nat.reduceLeDiff, Nat.reduceEqDiff, Int.reduceAdd, Int.reduceSub, Int.reduceMul, Int.reduceNeg, Int.reducePow, Int.reduceLT, Int.reduceLE, Int.reduceEq, Int.reduceNe, Int.reduceToNat, Int.toNat_natCast, Nat.zero_add, Nat.add_zero, Nat.mul_one, Nat.one_mul, Bool.not_true, Bool.not_false, ne_eq, not_true_eq_false, not_false_eq_true, Bool.false_eq_true, hc, h0, h1, h2, r.len, q1, q2, q3, k2, k2', and_self]
  · by_cases k3 : 65536 < n
    · simp only [sh53, go_sem, reduceIte, Nat.reduceAdd, Nat.reduceSub, Nat.reduceMul, Nat.reducePow, Nat.reduceLT, Nat.reduceLeDiff, Nat.reduceEqDiff, Int.reduceAdd, Int.reduceSub, Int.reduceMul, Int.reduceNeg, Int.reducePow, Int.reduceLT, Int.reduceLE, Int.reduceEq, Int.reduceNe, Int.reduceToNat, Int.toNat_natCast, Nat.zero_add, Nat.add_zero, Nat.mul_one, Nat.one_mul, Bool.not_true, Bool.not_false, ne_eq, not_true_eq_false, not_false_eq_true, Bool.false_eq_true, hc, h0, h1, h2, r.len, q1, q2, q3, k1, k3, false_and]
    · by_cases k4 : k = 3
      · subst k4
        simp only [sh53, go_sem, reduceIte, Nat.reduceAdd, Nat.reduceSub, Nat.reduceMul, Nat.reducePow, Nat.reduceLT, Nat.reduceLeDiff, Nat.reduceEqDiff, Int.reduceAdd, Int.reduceSub, Int.reduceMul, Int.reduceNeg, Int.reducePow, Int.reduceLT, Int.reduceLE, Int.reduceEq, Int.reduceNe, Int.reduceToNat, Int.toNat_natCast, Nat.zero_add, Nat.add_zero, Nat.mul_one, Nat.one_mul, Bool.not_true, Bool.not_false, ne_eq, not_true_eq_false, not_false_eq_true, Bool.false_eq_true, joinA, hc, h0, h1, h2, r.len, q1, q2, q3, k3, false_and]
        refine loop_r (n + 8).toNat (fun c l h' => ∃ j : Int, 0 ≤ j ∧ j % 8 = 0 ∧ j < n + 8 ∧ l = [.int .i64 (1 + j / 8), .int .i64 j] ∧ h' = h ∧ c = (n + 8 - j).toNat) ⟨0, by omega, by omega, by omega, rfl, rfl, by omega⟩ ?_
        rintro c l h' ⟨j, j0, j8, jn, rfl, rfl, rfl⟩
        by_cases hlt : j < n
        · have x1 : IntKind.i64.wrap (1 + j / 8 + 1) = 1 + (j + 8) / 8 := by rw [i64_id (by omega) (by omega)]; omega
          have x2 : IntKind.i64.wrap (j + 8) = j + 8 := i64_id (by omega) (by omega)
          simp only [go_sem, reduceIte, Nat.reduceAdd, Nat.reduceSub, Nat.reduceMul, Nat.reducePow, Nat.reduceLT, Nat.reduceLeDiff, Nat.reduceEqDiff, Int.reduceAdd, Int.reduceSub, Int.reduceMul, Int.reduceNeg, Int.reducePow, Int.reduceLT, Int.reduceLE, Int.reduceEq, Int.reduceNe, Int.reduceToNat, Int.toNat_natCast, Nat.zero_add, Nat.add_zero, Nat.mul_one, Nat.one_mul, Bool.not_true, Bool.not_false, ne_eq, not_true_eq_false, not_false_eq_true, Bool.false_eq_true, hlt, x1, x2]
          exact ⟨_, by omega, j + 8, by omega, by omega, by omega, rfl, rfl⟩
        · have x3 : 1 + j / 8 = 1 + (n + 7) / 8 := by omega
          simp only [go_sem, reduceIte, Nat.reduceAdd, Nat.reduceSub, Nat.reduceMul, Nat.reducePow, Nat.reduceLT, Nat.reduceLeDiff, Nat.reduceEqDiff, Int.reduceAdd, Int.reduceSub, Int.reduceMul, Int.reduceNeg, Int.reducePow, Int.reduceLT, Int.reduceLE, Int.reduceEq, Int.reduceNe, Int.reduceToNat, Int.toNat_natCast, Nat.zero_add, Nat.add_zero, Nat.mul_one, Nat.one_mul, Bool.not_true, Bool.not_false, ne_eq, not_true_eq_false, not_false_eq_true, Bool.false_eq_true, hlt, x3]
      · rcases e2 with e2 | e2
        · simp only [sh53, go_sem, reduceIte, Nat.reduceAdd, Nat.reduceSub, Nat.reduceMul, Nat.reducePow, Nat.reduceLT, Nat.reduceLeDiff, Nat.reduceEqDiff, Int.reduceAdd, Int.reduceSub, Int.reduceMul, Int.reduceNeg, Int.reducePow, Int.reduceLT, Int.reduceLE, Int.reduceEq, Int.reduceNe, Int.reduceToNat, Int.toNat_natCast, Nat.zero_add, Nat.add_zero, Nat.mul_one, Nat.one_mul, Bool.not_true, Bool.not_false, ne_eq, not_true_eq_false, not_false_eq_true, Bool.false_eq_true, joinA, hc, h0, h1, h2, r.len, q1, q2, q3, k1, k3, k4, e2, false_and]
        · exact absurd e2 k3
theorem law10 (h : H) (ls : List (List AV)) (hl : LiesA h [.sl (.st [.int .i64, .int .i64]), .int .i64, .int .i64] ls) : C 10 (argsOf [.sl (.st [.int .i64, .int .i64]), .int .i64, .int .i64] ls) h yes := by
  obtain ⟨l0, ls, rfl, h0, hl⟩ := liesA_cons hl
  obtain ⟨l1, ls, rfl, h1, hl⟩ := liesA_cons hl
  obtain ⟨l2, ls, rfl, h2, hl⟩ := liesA_cons hl
  obtain rfl := liesA_nil hl
  obtain ⟨v, L, rfl, hr, hL, hm⟩ := lies_lays h0
  obtain ⟨i, rfl, i0, i1⟩ := lies_i64 h1
  obtain ⟨n, rfl, n0, n1⟩ := lies_i64 h2
  show C 10 [v, .int .i64 i, .int .i64 n] h yes
  refine run10 ?_
  unfold sh10
  refine new_c hr hm (fun he h1 f1 => ?_) (fun he h1 b bw bd B f1 hfr hh => ?_)
  · simp only [go_sem, reduceIte, Nat.reduceAdd, Nat.reduceSub, Nat.reduceMul, Nat.reducePow, Nat.reduceLT, Nat.reduceLeDiff, Nat.reduceEqDiff, Int.reduceAdd, Int.reduceSub, Int.reduceMul, Int.reduceNeg, Int.reducePow, Int.reduceLT, Int.reduceLE, Int.reduceEq, Int.reduceNe, Int.reduceToNat, Int.toNat_natCast, Nat.zero_add, Nat.add_zero, Nat.mul_one, Nat.one_mul, Bool.not_true, Bool.not_false, ne_eq, not_true_eq_false, not_false_eq_true, Bool.false_eq_true, he]
    refine check_c (hr.fr f1) hm fun h2 f2 => ?_
    simp only [go_sem, reduceIte, Nat.reduceAdd, Nat.reduceSub, Nat.reduceMul, Nat.reducePow, Nat.reduceLT, Nat.reduceLeDiff, Nat.reduceEqDiff, Int.reduceAdd, Int.reduceSub, Int.reduceMul, Int.reduceNeg, Int.reducePow, Int.reduceLT, Int.reduceLE, Int.reduceEq, Int.reduceNe, Int.reduceToNat, Int.toNat_natCast, Nat.zero_add, Nat.add_zero, Nat.mul_one, Nat.one_mul, Bool.not_true, Bool.not_false, ne_eq, not_true_eq_false, not_false_eq_true, Bool.false_eq_true]
    exact exLives_c fun h' _ => rfl
  · obtain ⟨r1, r2, r3, r4⟩ := newErr_range he
    have g := good_new 100 (lays := L) (by decide) r3 r4
    have ev : fillV [.int .i64 0, .nilsl, .nilsl] [(0, 1, .int .i64 100), (1, 1, v)] = some [.int .i64 100, v, .nilsl] := by
      rcases hr.2 with ⟨_, e⟩ | ⟨_, _, _, e, _⟩ <;> subst e <;> rfl
    have lv : leaves [.int .i64 100, v, .nilsl] = true := by simp only [leaves, hr.one.1]; rfl
    simp only [go_sem, reduceIte, Nat.reduceAdd, Nat.reduceSub, Nat.reduceMul, Nat.reducePow, Nat.reduceLT, Nat.reduceLeDiff, Nat.reduceEqDiff, Int.reduceAdd, Int.reduceSub, Int.reduceMul, Int.reduceNeg, Int.reducePow, Int.reduceLT, Int.reduceLE, Int.reduceEq, Int.reduceNe, Int.reduceToNat, Int.toNat_natCast, Nat.zero_add, Nat.add_zero, Nat.mul_one, Nat.one_mul, Bool.not_true, Bool.not_false, ne_eq, not_true_eq_false, not_false_eq_true, Bool.false_eq_true, he, b_pn, ev, AV.cells]
    refine ⟨lv, fun bx hbx => ?_⟩
    have hh2 : HeapAt (h1.set bx (.live [.int .i64 100, v, .nilsl] 56 true)) b bw bd B (newHs (Int.toNat 100) L) := hh.fr0 (Fr.new hbx)
    have f2 : Fr [] h (h1.set bx (.live [.int .i64 100, v, .nilsl] 56 true)) := f1.set' (f1.free hbx)
    have c2 : ∀ off, (h1.set bx (.live [.int .i64 100, v, .nilsl] 56 true)).cell bx off = [AV.int .i64 100, v, .nilsl][off]? := fun off => cell_set
    have gx : (h1.set bx (.live [.int .i64 100, v, .nilsl] 56 true)).get bx = some (.live [.int .i64 100, v, .nilsl] 56 true) := H.get_same ..
    generalize h1.set bx (.live [.int .i64 100, v, .nilsl] 56 true) = h2 at *
    refine need_c hh2 g i n fun h3 f3 => ?_
    have hh3 := hh2.fr0 f3
    have hr3 := (hr.fr f2).fr f3
    have c3 : h3.cell bx 1 = some v := by rw [cell_of (f3 bx _ (by simp) gx)]; rfl
    have k3 : ∀ (K : AV → H → Prop), C 54 [.ptr b 0, .int .i64 i] h3 K = K (.int .i64 (if i < 0 ∨ (L.length : Int) ≤ i then 0 else kindAt L i)) h3 := fun K => kind_c hh3 i K
    have n3 : ∀ k, (newHs k L).lays = L := fun _ => rfl
    simp only [go_sem, reduceIte, Nat.reduceAdd, Nat.reduceSub, Nat.reduceMul, Nat.reducePow, Nat.reduceLT, Nat.reduceLeDiff, Nat.reduceEqDiff, Int.reduceAdd, Int.reduceSub, Int.reduceMul, Int.reduceNeg, Int.reducePow, Int.reduceLT, Int.reduceLE, Int.reduceEq, Int.reduceNe, Int.reduceToNat, Int.toNat_natCast, Nat.zero_add, Nat.add_zero, Nat.mul_one, Nat.one_mul, Bool.not_true, Bool.not_false, ne_eq, not_true_eq_false, not_false_eq_true, Bool.false_eq_true, rneed_c c3 hr3, n3]
    refine join_r (fun (J : AV → H → Prop) => J (.int .i64 (if i < 0 ∨ (L.length : Int) ≤ i then 0 else kindAt L i)) h3) ?_ fun J hJ => ?_
    · simp only [go_sem, reduceIte, Nat.reduceAdd, Nat.reduceSub, Nat.reduceMul, Nat.reducePow, Nat.reduceLT, Nat.reduceLeDiff, Nat.reduceEqDiff, Int.reduceAdd, Int.reduceSub, Int.reduceMul, Int.reduceNeg, Int.reducePow, Int.reduceLT, Int.reduceLE, Int.reduceEq, Int.reduceNe, Int.reduceToNat, Int.toNat_natCast, Nat.zero_add, Nat.add_zero, Nat.mul_one, Nat.one_mul, Bool.not_true, Bool.not_false, ne_eq, not_true_eq_false, not_false_eq_true, Bool.false_eq_true, k3]
      exact exLives_c fun h' _ => rfl
    · by_cases i0 : 0 ≤ i
      · by_cases i1 : i < (L.length : Int)
        · obtain ⟨bl, o, q1, q2, q3, q4⟩ := hr3.lay (lay_get (L := L) i0 i1)
          have hi : ((i.toNat : Nat) : Int) = i := by omega
          rw [hi] at q1
          rw [if_neg (by omega)] at hJ
          simp only [go_sem, reduceIte, Nat.reduceAdd, Nat.reduceSub, Nat.reduceMul, Nat.reducePow, Nat.reduceLT, Nat.reduceLeDiff, Nat.reduceEqDiff, Int.reduceAdd, Int.reduceSub, Int.reduceMul, Int.reduceNeg, Int.reducePow, Int.reduceLT, Int.reduceLE, Int.reduceEq, Int.reduceNe, Int.reduceToNat, Int.toNat_natCast, Nat.zero_add, Nat.add_zero, Nat.mul_one, Nat.one_mul, Bool.not_true, Bool.not_false, ne_eq, not_true_eq_false, not_false_eq_true, Bool.false_eq_true, i0, i1, hr.len, q1, q2]
          exact hJ
        · rw [if_pos (by omega)] at hJ
          simp only [go_sem, reduceIte, Nat.reduceAdd, Nat.reduceSub, Nat.reduceMul, Nat.reducePow, Nat.reduceLT, Nat.reduceLeDiff, Nat.reduceEqDiff, Int.reduceAdd, Int.reduceSub, Int.reduceMul, Int.reduceNeg, Int.reducePow, Int.reduceLT, Int.reduceLE, Int.reduceEq, Int.reduceNe, Int.reduceToNat, Int.toNat_natCast, Nat.zero_add, Nat.add_zero, Nat.mul_one, Nat.one_mul, Bool.not_true, Bool.not_false, ne_eq, not_true_eq_false, not_false_eq_true, Bool.false_eq_true, i0, i1, hr.len]
          exact hJ
      · rw [if_pos (by omega)] at hJ
        simp only [go_sem, reduceIte, Nat.reduceAdd, Nat.reduceSub, Nat.reduceMul, Nat.reducePow, Nat.reduceLT, Nat.reduceLeDiff, Nat.reduceEqDiff, Int.reduceAdd, Int.reduceSub, Int.reduceMul, Int.reduceNeg, Int.reducePow, Int.reduceLT, Int.reduceLE, Int.reduceEq, Int.reduceNe, Int.reduceToNat, Int.toNat_natCast, Nat.zero_add, Nat.add_zero, Nat.mul_one, Nat.one_mul, Bool.not_true, Bool.not_false, ne_eq, not_true_eq_false, not_false_eq_true, Bool.false_eq_true, i0]
        exact hJ
end
end Go.Proofs.Ytljkkfcokpimkaa.X
