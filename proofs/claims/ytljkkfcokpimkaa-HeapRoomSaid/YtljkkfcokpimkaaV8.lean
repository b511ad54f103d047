/- Objects stand one behind the other, as long as there is room. -/
import Derived.Test.YtljkkfcokpimkaaV7
set_option linter.unusedVariables false
set_option linter.unusedSimpArgs false
set_option maxRecDepth 20000
namespace Go.Proofs.Ytljkkfcokpimkaa.X
open Go Go.RowKit

section
variable {h : H}
theorem law11 (h : H) (ls : List (List AV)) (hl : LiesA h [.int .i64, .sl (.int .i64), .int .i64] ls) : C 11 (argsOf [.int .i64, .sl (.int .i64), .int .i64] ls) h yes := by
  obtain ⟨l0, ls, rfl, h0, hl⟩ := liesA_cons hl
  obtain ⟨l1, ls, rfl, h1, hl⟩ := liesA_cons hl
  obtain ⟨l2, ls, rfl, h2, hl⟩ := liesA_cons hl
  obtain rfl := liesA_nil hl
  obtain ⟨words, rfl, w0, w1⟩ := lies_i64 h0
  obtain ⟨v, L, rfl, hr, hL, hm⟩ := lies_ints h1
  obtain ⟨kind, rfl, k0, k1⟩ := lies_i64 h2
  have hrb : reachBytes ≤ 4611686018427387903 := by decide
  show C 11 [.int .i64 words, v, .int .i64 kind] h yes
  refine run11 ?_
  -- the words and the kind
  obtain ⟨W, hW, hW0, hW1⟩ : ∃ W : Nat, (if (if 4000 < words then (4000 : Int) else words) < 0 then (0 : Int) else (if 4000 < words then (4000 : Int) else words)) = W ∧ 0 ≤ W ∧ W ≤ 4000 := by
    refine ⟨(if (if 4000 < words then (4000 : Int) else words) < 0 then (0 : Int) else (if 4000 < words then (4000 : Int) else words)).toNat, ?_, by omega, ?_⟩
    · split <;> split <;> omega
    · split <;> split <;> omega
  obtain ⟨kd, hkd, hk23⟩ : ∃ kd : Int, IntKind.i64.wrap (2 + IntKind.i64.wrap ((IntKind.u64.wrap kind).tmod 2)) = kd ∧ (kd = 2 ∨ kd = 3) := by
    refine ⟨_, rfl, ?_⟩
    rw [u64_wrap, Int.tmod_eq_emod_of_nonneg (by omega), i64_id (n := kind % 18446744073709551616 % 2) (by omega) (by omega), i64_id (by omega) (by omega)]
    omega
  have e1 : fillV [.int .i64 0, .int .i64 0] [(0, 1, .int .i64 kd)] = some [.int .i64 kd, .int .i64 0] := rfl
  have e2 : fillV [.int .i64 0, .int .i64 0] [(0, 2, .agg [.int .i64 kd, .int .i64 0])] = some (lc [(kd, 0)]) := rfl
  have emax : (if (0 : Int) < (if (4000 : Int) < words then (4000 : Int) else words) then (if (4000 : Int) < words then (4000 : Int) else words) else 0) = W := by rw [← hW]; split <;> split <;> omega
  simp only [sh11, go_sem, reduceIte, Nat.reduceAdd, Nat.reduceSub, Nat.reduceMul, Nat.reducePow, Nat.reduceLT, Nat.reduceLeDiff, Nat.reduceEqDiff, Int.reduceAdd, Int.reduceSub, Int.reduceMul, Int.reduceNeg, Int.reducePow, Int.reduceLT, Int.reduceLE, Int.reduceEq, Int.reduceNe, Int.reduceToNat, Int.toNat_natCast, Nat.zero_add, Nat.add_zero, Nat.mul_one, Nat.one_mul, Bool.not_true, Bool.not_false, ne_eq, not_true_eq_false, not_false_eq_true, Bool.false_eq_true, emax, hkd, e1, e2, mkslA_s]
  refine ⟨lc_leaves _, fun bl hbl => ?_⟩
  have f0 : Fr [] h (h.set bl (.live (lc [(kd, 0)]) 60 true)) := Fr.new hbl
  have r0 : Row (h.set bl (.live (lc [(kd, 0)]) 60 true)) (.sl bl 0 1 (.exact 1)) [(kd, (0 : Int))].length 2 (lc [(kd, 0)]) := ⟨rfl, .inr ⟨bl, 0, _, rfl, rfl, H.read_eq (H.get_same ..) (by simp [lc]) (by simp [lc])⟩⟩
  have hany : [(kd, (0 : Int))].any badLay = false := by rcases hk23 with rfl | rfl <;> decide
  have hne : newErr W [(kd, (0 : Int))] = 0 := by unfold newErr; rw [if_neg (by omega), if_neg (by simp), hany]; rfl
  refine new_c r0 (by simp; decide) (fun q => absurd hne q) fun _ h1 b bw bd B f1 hfr hh1 => ?_
  have A1 := abs_new W (lays := [(kd, 0)]) (by omega) (by simp) hany
  have hP : ∀ c ∈ [b, bw, bd], h.get c = none := fun c hc => by
    refine f0.free (hfr c ?_)
    simp only [List.mem_cons, List.not_mem_nil, or_false] at hc
    rcases hc with rfl | rfl | rfl <;> simp
  have g1 := f0.trans f1
  rw [Int.toNat_natCast] at hh1
  simp only [go_sem, reduceIte, Nat.reduceAdd, Nat.reduceSub, Nat.reduceMul, Nat.reducePow, Nat.reduceLT, Nat.reduceLeDiff, Nat.reduceEqDiff, Int.reduceAdd, Int.reduceSub, Int.reduceMul, Int.reduceNeg, Int.reducePow, Int.reduceLT, Int.reduceLE, Int.reduceEq, Int.reduceNe, Int.reduceToNat, Int.toNat_natCast, Nat.zero_add, Nat.add_zero, Nat.mul_one, Nat.one_mul, Bool.not_true, Bool.not_false, ne_eq, not_true_eq_false, not_false_eq_true, Bool.false_eq_true, b_pn]
  refine join_r (fun (J : H → Prop) => ∀ h', J h') (fun h' => exLives_c fun h'' _ => rfl) fun J hJ => ?_
  refine loop_r (L.length + 1) (fun c l h' => ∃ (s : Hs) (os : List Ob) (i : Nat), l = [.int .i64 s.top, .int .i64 i] ∧ i ≤ L.length ∧ HeapAt h' b bw bd B s ∧ Abs s os ∧ s.lays = [(kd, 0)] ∧ s.words.length = W ∧ Fr [] h h' ∧ c = L.length + 1 - i)
    ⟨newHs W [(kd, 0)], [], 0, rfl, by omega, hh1, A1, rfl, by simp [newHs], g1, by omega⟩ ?_
  rintro c l h' ⟨s, os, i, rfl, hi, hh, A, hlay, hwl, fh, rfl⟩
  by_cases q1 : (i : Int) < L.length
  · by_cases q2 : (i : Int) < 200
    · have hi' : i < L.length := by omega
      obtain ⟨n, hn⟩ : ∃ n, L[i]? = some n := ⟨L[i], by simp [hi']⟩
      have hnr := hL n (List.mem_of_getElem? hn)
      obtain ⟨b1, o1, x1, x2⟩ := (hr.fr fh).at (i := i) (by omega) q1 (x := .int .i64 n) (by simp [ic, hn])
      have en : IntKind.i64.wrap ((i : Int) + 1) = ((i + 1 : Nat) : Int) := by rw [i64_id (by omega) (by omega)]; rfl
      have hk0 : kindAt s.lays 0 = kd := by rw [hlay]; rfl
      have htw := A.good.top
      simp only [go_sem, reduceIte, Nat.reduceAdd, Nat.reduceSub, Nat.reduceMul, Nat.reducePow, Nat.reduceLT, Nat.reduceLeDiff, Nat.reduceEqDiff, Int.reduceAdd, Int.reduceSub, Int.reduceMul, Int.reduceNeg, Int.reducePow, Int.reduceLT, Int.reduceLE, Int.reduceEq, Int.reduceNe, Int.reduceToNat, Int.toNat_natCast, Nat.zero_add, Nat.add_zero, Nat.mul_one, Nat.one_mul, Bool.not_true, Bool.not_false, ne_eq, not_true_eq_false, not_false_eq_true, Bool.false_eq_true, hr.len, q1, q2, x1, x2]
      -- what follows the call, for each way
      by_cases n0 : n < 0
      · have hne : (needN s.lays 0 n).2 = 1 := by unfold needN; rw [if_pos (.inr (.inr n0))]
        refine alloc_err hh A.good hne (by decide) fun h2 f2 => ?_
        have hh2 := hh.fr0 f2
        have z1 : ¬ (0 : Int) ≤ n := by omega
        simp only [go_sem, reduceIte, Nat.reduceAdd, Nat.reduceSub, Nat.reduceMul, Nat.reducePow, Nat.reduceLT, Nat.reduceLeDiff, Nat.reduceEqDiff, Int.reduceAdd, Int.reduceSub, Int.reduceMul, Int.reduceNeg, Int.reducePow, Int.reduceLT, Int.reduceLE, Int.reduceEq, Int.reduceNe, Int.reduceToNat, Int.toNat_natCast, Nat.zero_add, Nat.add_zero, Nat.mul_one, Nat.one_mul, Bool.not_true, Bool.not_false, ne_eq, not_true_eq_false, not_false_eq_true, Bool.false_eq_true, joinA, n0, z1, top_c hh2, en]
        exact ⟨L.length + 1 - (i + 1), by omega, s, os, i + 1, rfl, by omega, hh2, A, hlay, hwl, fh.trans f2, rfl⟩
      · have z1 : (0 : Int) ≤ n := by omega
        by_cases n1 : 65536 < n
        · have hne : (needN s.lays 0 n).2 = 2 := by
            unfold needN
            rw [if_neg (by rw [hlay]; simp; omega), hk0, if_neg (by rintro ⟨q, _⟩; omega), if_pos n1]
          refine alloc_err hh A.good hne (by decide) fun h2 f2 => ?_
          have hh2 := hh.fr0 f2
          have z2 : ¬ n ≤ 65536 := by omega
          simp only [go_sem, reduceIte, Nat.reduceAdd, Nat.reduceSub, Nat.reduceMul, Nat.reducePow, Nat.reduceLT, Nat.reduceLeDiff, Nat.reduceEqDiff, Int.reduceAdd, Int.reduceSub, Int.reduceMul, Int.reduceNeg, Int.reducePow, Int.reduceLT, Int.reduceLE, Int.reduceEq, Int.reduceNe, Int.reduceToNat, Int.toNat_natCast, Nat.zero_add, Nat.add_zero, Nat.mul_one, Nat.one_mul, Bool.not_true, Bool.not_false, ne_eq, not_true_eq_false, not_false_eq_true, Bool.false_eq_true, joinA, n0, n1, z1, z2, top_c hh2, en]
          exact ⟨L.length + 1 - (i + 1), by omega, s, os, i + 1, rfl, by omega, hh2, A, hlay, hwl, fh.trans f2, rfl⟩
        · have z2 : n ≤ 65536 := by omega
          have hnd : needN s.lays 0 n = (if kd = 3 then 1 + (n + 7) / 8 else 1 + n, 0) := by
            unfold needN
            rw [if_neg (by rw [hlay]; simp; omega), hk0, if_neg (by rintro ⟨q, _⟩; omega), if_neg n1]
            split <;> rfl
          have a1 : IntKind.i64.wrap (1 + n) = 1 + n := i64_id (by omega) (by omega)
          have a2 : IntKind.i64.wrap (n + 7) = n + 7 := i64_id (by omega) (by omega)
          have a3 : IntKind.i64.wrap ((n + 7).tdiv 8) = (n + 7) / 8 := by rw [Int.tdiv_eq_ediv_of_nonneg (by omega), i64_id (by omega) (by omega)]
          have a4 : IntKind.i64.wrap (1 + (n + 7) / 8) = 1 + (n + 7) / 8 := i64_id (by omega) (by omega)
          have a5 : IntKind.i64.wrap ((W : Int) - s.top) = W - s.top := i64_id (by omega) (by omega)
          generalize hnk : (if kd = 3 then 1 + (n + 7) / 8 else 1 + n) = nk at hnd
          have hnk1 : 1 ≤ nk ∧ nk ≤ 65537 := by rw [← hnk]; split <;> omega
          by_cases hk : (s.words.length : Int) - s.top < nk
          · refine alloc_full hh A.good (by rw [hnd]) (by rw [hnd]; exact hk) fun h2 f2 => ?_
            have hh2 := hh.fr0 f2
            have hk' : (W : Int) - s.top < nk := by omega
            have fin : ∃ n', n' < L.length + 1 - i ∧ ∃ s_1 os_1 i_1, [AV.int .i64 s.top, .int .i64 ((i + 1 : Nat) : Int)] = [.int .i64 (s_1 : Hs).top, .int .i64 ((i_1 : Nat) : Int)] ∧ i_1 ≤ L.length ∧ HeapAt h2 b bw bd B s_1 ∧ Abs s_1 os_1 ∧ s_1.lays = [(kd, 0)] ∧ s_1.words.length = W ∧ Fr [] h h2 ∧ n' = L.length + 1 - i_1 :=
              ⟨L.length + 1 - (i + 1), by omega, s, os, i + 1, rfl, by omega, hh2, A, hlay, hwl, fh.trans f2, rfl⟩
            by_cases k3 : kd = 3
            · rw [if_pos k3] at hnk
              subst hnk
              simp only [go_sem, reduceIte, Nat.reduceAdd, Nat.reduceSub, Nat.reduceMul, Nat.reducePow, Nat.reduceLT, Nat.reduceLeDiff, Nat.reduceEqDiff, Int.reduceAdd, Int.reduceSub, Int.reduceMul, Int.reduceNeg, Int.reducePow, Int.reduceLT, Int.reduceLE, Int.reduceEq, Int.reduceNe, Int.reduceToNat, Int.toNat_natCast, Nat.zero_add, Nat.add_zero, Nat.mul_one, Nat.one_mul, Bool.not_true, Bool.not_false, ne_eq, not_true_eq_false, not_false_eq_true, Bool.false_eq_true, joinA, n0, n1, z1, z2, a1, a2, a3, a4, a5, k3, hk', top_c hh2, en]
              subst k3; exact fin
            · rw [if_neg k3] at hnk
              subst hnk
              simp only [go_sem, reduceIte, Nat.reduceAdd, Nat.reduceSub, Nat.reduceMul, Nat.reducePow, Nat.reduceLT, Nat.reduceLeDiff, Nat.reduceEqDiff, Int.reduceAdd, Int.reduceSub, Int.reduceMul, Int.reduceNeg, Int.reducePow, Int.reduceLT, Int.reduceLE, Int.reduceEq, Int.reduceNe, Int.reduceToNat, Int.toNat_natCast, Nat.zero_add, Nat.add_zero, Nat.mul_one, Nat.one_mul, Bool.not_true, Bool.not_false, ne_eq, not_true_eq_false, not_false_eq_true, Bool.false_eq_true, joinA, n0, n1, z1, z2, a1, a2, a3, a4, a5, k3, hk', top_c hh2, en]
              exact fin
          · refine alloc_ok (t := s.top) hh A (by rw [hnd]) (by rw [hnd]; show nk ≤ _; omega) rfl fun h2 f2 hh2 A2 => ?_
            rw [hnd] at hh2 A2
            simp only at hh2 A2
            have hk' : ¬ (W : Int) - s.top < nk := by omega
            have ht2 : ((s.alloc 0 n nk).top : Int) = s.top + nk := by simp only [Hs.alloc, Hs.mark]; omega
            have a6 : IntKind.i64.wrap ((s.top : Int) + nk) = s.top + nk := i64_id (by omega) (by omega)
            have his : (findO (os ++ [newOb s.lays 0 n]) (s.top : Int)).isSome = true := by rw [findO_append, A.top, if_pos rfl]; rfl
            have hwl2 : (s.alloc 0 n nk).words.length = W := by
              rw [← hwl]; simp only [Hs.alloc, Hs.mark]; split
              · rw [List.length_set]
              · rw [fillW_length, List.length_set]
            have fin : ∃ n', n' < L.length + 1 - i ∧ ∃ s_1 os_1 i_1, [AV.int .i64 (s.top + nk), .int .i64 ((i + 1 : Nat) : Int)] = [.int .i64 (s_1 : Hs).top, .int .i64 ((i_1 : Nat) : Int)] ∧ i_1 ≤ L.length ∧ HeapAt h2 b bw bd B s_1 ∧ Abs s_1 os_1 ∧ s_1.lays = [(kd, 0)] ∧ s_1.words.length = W ∧ Fr [] h h2 ∧ n' = L.length + 1 - i_1 :=
              ⟨L.length + 1 - (i + 1), by omega, s.alloc 0 n nk, _, i + 1, by rw [ht2], by omega, hh2, A2, hlay, hwl2, fh.cons hP f2, rfl⟩
            by_cases k3 : kd = 3
            · rw [if_pos k3] at hnk
              subst hnk
              simp only [go_sem, reduceIte, Nat.reduceAdd, Nat.reduceSub, Nat.reduceMul, Nat.reducePow, Nat.reduceLT, Nat.reduceLeDiff, Nat.reduceEqDiff, Int.reduceAdd, Int.reduceSub, Int.reduceMul, Int.reduceNeg, Int.reducePow, Int.reduceLT, Int.reduceLE, Int.reduceEq, Int.reduceNe, Int.reduceToNat, Int.toNat_natCast, Nat.zero_add, Nat.add_zero, Nat.mul_one, Nat.one_mul, Bool.not_true, Bool.not_false, ne_eq, not_true_eq_false, not_false_eq_true, Bool.false_eq_true, joinA, n0, n1, z1, z2, a1, a2, a3, a4, a5, k3, hk', is_a hh2 A2, his, a6, top_c hh2, ht2, en]
              subst k3; exact fin
            · rw [if_neg k3] at hnk
              subst hnk
              simp only [go_sem, reduceIte, Nat.reduceAdd, Nat.reduceSub, Nat.reduceMul, Nat.reducePow, Nat.reduceLT, Nat.reduceLeDiff, Nat.reduceEqDiff, Int.reduceAdd, Int.reduceSub, Int.reduceMul, Int.reduceNeg, Int.reducePow, Int.reduceLT, Int.reduceLE, Int.reduceEq, Int.reduceNe, Int.reduceToNat, Int.toNat_natCast, Nat.zero_add, Nat.add_zero, Nat.mul_one, Nat.one_mul, Bool.not_true, Bool.not_false, ne_eq, not_true_eq_false, not_false_eq_true, Bool.false_eq_true, joinA, n0, n1, z1, z2, a1, a2, a3, a4, a5, k3, hk', is_a hh2 A2, his, a6, top_c hh2, ht2, en]
              exact fin
    · simp only [go_sem, reduceIte, Nat.reduceAdd, Nat.reduceSub, Nat.reduceMul, Nat.reducePow, Nat.reduceLT, Nat.reduceLeDiff, Nat.reduceEqDiff, Int.reduceAdd, Int.reduceSub, Int.reduceMul, Int.reduceNeg, Int.reducePow, Int.reduceLT, Int.reduceLE, Int.reduceEq, Int.reduceNe, Int.reduceToNat, Int.toNat_natCast, Nat.zero_add, Nat.add_zero, Nat.mul_one, Nat.one_mul, Bool.not_true, Bool.not_false, ne_eq, not_true_eq_false, not_false_eq_true, Bool.false_eq_true, hr.len, q1, q2]; exact hJ h'
  · simp only [go_sem, reduceIte, Nat.reduceAdd, Nat.reduceSub, Nat.reduceMul, Nat.reducePow, Nat.reduceLT, Nat.reduceLeDiff, Nat.reduceEqDiff, Int.reduceAdd, Int.reduceSub, Int.reduceMul, Int.reduceNeg, Int.reducePow, Int.reduceLT, Int.reduceLE, Int.reduceEq, Int.reduceNe, Int.reduceToNat, Int.toNat_natCast, Nat.zero_add, Nat.add_zero, Nat.mul_one, Nat.one_mul, Bool.not_true, Bool.not_false, ne_eq, not_true_eq_false, not_false_eq_true, Bool.false_eq_true, hr.len, q1]; exact hJ h'
end
end Go.Proofs.Ytljkkfcokpimkaa.X
