/- A row of numbers that are put is got, in order; no two are put alike. -/
import Derived.Test.YtljkkfcokpimkaaW8
set_option linter.unusedVariables false
set_option linter.unusedSimpArgs false
set_option maxRecDepth 20000
namespace Go.Proofs.Ytljkkfcokpimkaa.X
open Go Go.RowKit

def ic (L : List Int) : List AV := L.map fun n => AV.int .i64 n
def catL (L : List Int) : List Nat := L.flatMap fun n => putL (zig n)
theorem catL_append (a b : List Int) : catL (a ++ b) = catL a ++ catL b := by simp [catL]
theorem catL_lt (L : List Int) : ∀ d ∈ catL L, d < 256 := by
  intro d hd
  simp only [catL, List.mem_flatMap] at hd
  obtain ⟨n, _, hn⟩ := hd
  exact putL_lt _ d hn
theorem catL_len {L : List Int} (h : ∀ n ∈ L, -9223372036854775808 ≤ n ∧ n ≤ 9223372036854775807) : (catL L).length ≤ 10 * L.length := by
  induction L with
  | nil => simp [catL]
  | cons n L ih =>
    have h1 := putL_len64 (zig_lt (h n (by simp)).1 (h n (by simp)).2)
    have h2 := ih fun m hm => h m (by simp [hm])
    simp only [catL, List.flatMap_cons, List.length_append, List.length_cons] at h2 ⊢
    omega
theorem decS_putL {A B : List Nat} {n : Int} (h0 : -9223372036854775808 ≤ n) (h1 : n ≤ 9223372036854775807) : decS (A ++ putL (zig n) ++ B) A.length = (n, (A.length : Int) + (putL (zig n)).length, true) := by
  have hp := putL_pos (zig n)
  have hz := zig_lt h0 h1
  have e := decS_good (L := A ++ putL (zig n) ++ B) (a := A.length) (t := putL (zig n)) (by omega) (by simp; omega) (by
    rw [List.append_assoc, Int.toNat_natCast, List.drop_left]
    exact cut_putL _ _ _ (putL_len64 hz)) ⟨by rw [val_putL], by rw [val_putL]; exact hz⟩
  rw [e, val_putL, unz_zig]
section
variable {h : H}
theorem lies_ints {l : List AV} (hl : Lies h (.sl (.int .i64)) l) : ∃ v L, l = [v] ∧ Row h v L.length 1 (ic L) ∧ (∀ n ∈ L, -9223372036854775808 ≤ n ∧ n ≤ 9223372036854775807) ∧ L.length ≤ reachBytes := by
  simp only [Lies] at hl
  rcases hl with rfl | ⟨b, ei, css, rfl, hb, hm, hcs⟩
  · exact ⟨.nilsl, [], rfl, ⟨rfl, .inl ⟨rfl, rfl⟩⟩, by simp, by simp⟩
  · obtain ⟨L, hL, hfl, hlen⟩ : ∃ L : List Int, (∀ n ∈ L, -9223372036854775808 ≤ n ∧ n ≤ 9223372036854775807) ∧ css.flatten = ic L ∧ L.length = css.length := by
      clear hb hm
      induction css with
      | nil => exact ⟨[], by simp, rfl, rfl⟩
      | cons c css ih =>
        obtain ⟨L, i1, i2, i3⟩ := ih fun c hc => hcs c (by simp [hc])
        obtain ⟨n, rfl, hw⟩ := hcs c (by simp)
        have hn := i64_wf hw
        refine ⟨n :: L, ?_, ?_, by simp [i3]⟩
        · intro d hd
          rcases List.mem_cons.1 hd with rfl | hd
          · omega
          · exact i1 d hd
        · simp [ic, i2]
    refine ⟨_, L, rfl, ⟨by simp [ic], .inr ⟨b, 0, .any, by rw [hlen], rfl, ?_⟩⟩, hL, by omega⟩
    refine H.read_eq hb (by rw [hfl]; simp [ic]) ?_
    rw [hfl, List.drop_zero, List.take_of_length_le (by simp [ic])]
theorem Own.fr {h0 h h' : H} {ty esz : Nat} {v : AV} {n : Nat} {cs : List AV} (o : Own h0 h ty esz v n cs) (f : Fr [] h h') : Own h0 h' ty esz v n cs := by
  refine ⟨o.1, ?_⟩
  rcases o.2 with q | ⟨b, q1, q2, q3⟩
  · exact .inl q
  · exact .inr ⟨b, q1, q2, f b _ (by simp) q3⟩
theorem sl_none {v : AV} {n esz : Nat} {cs : List AV} (hr : Row h v n esz cs) {j : Nat} (hj : j ≤ n) (hn : 0 < n) :
    ∃ v', sliceOp (.row esz) v none (some (.int .i64 j)) none = some v' ∧ Row h v' j esz (cs.take (j * esz)) := by
  obtain ⟨v', w1, w2⟩ := hr.slice (k := .i64) (k' := .i64) (i := 0) (j := j) (by omega) (by omega) (by omega) hn
  have e : sliceOp (.row esz) v none (some (.int .i64 j)) none = sliceOp (.row esz) v (some (.int .i64 0)) (some (.int .i64 j)) none := by
    rcases hr.2 with ⟨_, rfl⟩ | ⟨b, off, cap, rfl, _, _⟩ <;> rfl
  refine ⟨v', by rw [e]; exact w1, ?_⟩
  simpa using w2
theorem wordBack_c {v : AV} {L : List Int} (hr : Row h v L.length 1 (ic L)) (hL : ∀ n ∈ L, -9223372036854775808 ≤ n ∧ n ≤ 9223372036854775807) {x y : Int} (x0 : -9223372036854775808 ≤ x) (x1 : x ≤ 9223372036854775807) (y0 : -9223372036854775808 ≤ y) (y1 : y ≤ 9223372036854775807) :
    C 8 [v, .int .i64 x, .int .i64 y] h yes := by
  refine run8 ?_
  simp only [sh8, hr.len, go_sem, reduceIte, Nat.reduceAdd, Nat.reduceSub, Nat.reduceMul, Nat.reducePow, Nat.reduceLT, Nat.reduceLeDiff, Nat.reduceEqDiff, Int.reduceAdd, Int.reduceSub, Int.reduceMul, Int.reduceNeg, Int.reducePow, Int.reduceLT, Int.reduceLE, Int.reduceEq, Int.reduceNe, Int.reduceToNat, Int.toNat_natCast, Nat.zero_add, Nat.add_zero, Nat.mul_one, Nat.one_mul, Bool.not_true, Bool.not_false, ne_eq, not_true_eq_false, not_false_eq_true, Bool.false_eq_true]
  refine join_r (fun J => ∀ (v : AV) (L : List Int), Row h v L.length 1 (ic L) → (∀ n ∈ L, -9223372036854775808 ≤ n ∧ n ≤ 9223372036854775807) → L.length ≤ 100 → J v h) ?_ ?_
  · clear hr hL
    intro v L hr hL h100
    have hrow : ∀ (i : Nat) (hi : i < L.length), (ic L)[(i : Int).toNat]? = some (.int .i64 L[i]) := fun i hi => by simp [ic, hi]
    refine join_r (fun J => ∀ v' h', Own h h' 5 1 v' (catL L).length (bc (catL L)) → Fr [] h h' → J v' h') ?_ ?_
    · intro b h1 ho f1
      have hlen := catL_len hL
      refine join_r (fun J => J (.int .i64 (catL L).length) h1) ?_ ?_
      · simp only [go_sem, reduceIte, Nat.reduceAdd, Nat.reduceSub, Nat.reduceMul, Nat.reducePow, Nat.reduceLT, Nat.reduceLeDiff, Nat.reduceEqDiff, Int.reduceAdd, Int.reduceSub, Int.reduceMul, Int.reduceNeg, Int.reducePow, Int.reduceLT, Int.reduceLE, Int.reduceEq, Int.reduceNe, Int.reduceToNat, Int.toNat_natCast, Nat.zero_add, Nat.add_zero, Nat.mul_one, Nat.one_mul, Bool.not_true, Bool.not_false, ne_eq, not_true_eq_false, not_false_eq_true, Bool.false_eq_true, ho.row.len]
        refine put_c x0 x1 fun v1 h2 o1 f2 => ?_
        simp only [go_sem, reduceIte, Nat.reduceAdd, Nat.reduceSub, Nat.reduceMul, Nat.reducePow, Nat.reduceLT, Nat.reduceLeDiff, Nat.reduceEqDiff, Int.reduceAdd, Int.reduceSub, Int.reduceMul, Int.reduceNeg, Int.reducePow, Int.reduceLT, Int.reduceLE, Int.reduceEq, Int.reduceNe, Int.reduceToNat, Int.toNat_natCast, Nat.zero_add, Nat.add_zero, Nat.mul_one, Nat.one_mul, Bool.not_true, Bool.not_false, ne_eq, not_true_eq_false, not_false_eq_true, Bool.false_eq_true, o1.row.b2s]
        refine put_c y0 y1 fun v2 h3 o2 f3 => ?_
        simp only [go_sem, reduceIte, Nat.reduceAdd, Nat.reduceSub, Nat.reduceMul, Nat.reducePow, Nat.reduceLT, Nat.reduceLeDiff, Nat.reduceEqDiff, Int.reduceAdd, Int.reduceSub, Int.reduceMul, Int.reduceNeg, Int.reducePow, Int.reduceLT, Int.reduceLE, Int.reduceEq, Int.reduceNe, Int.reduceToNat, Int.toNat_natCast, Nat.zero_add, Nat.add_zero, Nat.mul_one, Nat.one_mul, Bool.not_true, Bool.not_false, ne_eq, not_true_eq_false, not_false_eq_true, Bool.false_eq_true, (o1.row.fr f3).b2s, o2.row.b2s]
        have heq : decide (List.map UInt8.ofNat (putL (zig x)) = List.map UInt8.ofNat (putL (zig y))) = decide (x = y) := by
          by_cases hxy : x = y
          · subst hxy; simp
          · have : ¬ List.map UInt8.ofNat (putL (zig x)) = List.map UInt8.ofNat (putL (zig y)) := fun q => hxy (zig_inj (putL_inj (ofNat_inj (putL_lt _) (putL_lt _) q)))
            simp only [this, hxy]
        simp only [go_sem, reduceIte, Nat.reduceAdd, Nat.reduceSub, Nat.reduceMul, Nat.reducePow, Nat.reduceLT, Nat.reduceLeDiff, Nat.reduceEqDiff, Int.reduceAdd, Int.reduceSub, Int.reduceMul, Int.reduceNeg, Int.reducePow, Int.reduceLT, Int.reduceLE, Int.reduceEq, Int.reduceNe, Int.reduceToNat, Int.toNat_natCast, Nat.zero_add, Nat.add_zero, Nat.mul_one, Nat.one_mul, Bool.not_true, Bool.not_false, ne_eq, not_true_eq_false, not_false_eq_true, Bool.false_eq_true, heq]
        exact lives_c fun h' _ => rfl
      · intro J hJ
        simp only [go_sem, reduceIte, Nat.reduceAdd, Nat.reduceSub, Nat.reduceMul, Nat.reducePow, Nat.reduceLT, Nat.reduceLeDiff, Nat.reduceEqDiff, Int.reduceAdd, Int.reduceSub, Int.reduceMul, Int.reduceNeg, Int.reducePow, Int.reduceLT, Int.reduceLE, Int.reduceEq, Int.reduceNe, Int.reduceToNat, Int.toNat_natCast, Nat.zero_add, Nat.add_zero, Nat.mul_one, Nat.one_mul, Bool.not_true, Bool.not_false, ne_eq, not_true_eq_false, not_false_eq_true, Bool.false_eq_true, hr.len]
        refine loop_r L.length (fun k l h' => ∃ i : Nat, l = [.int .i64 (catL (L.take i)).length, .int .i64 i] ∧ h' = h1 ∧ i ≤ L.length ∧ k = L.length - i) ⟨0, by simp [catL], rfl, by omega, rfl⟩ ?_
        rintro k l h' ⟨i, rfl, rfl, hi, rfl⟩
        by_cases hlt : (i : Int) < L.length
        · have hlt' : i < L.length := by omega
          obtain ⟨b1, o1, q1, q2⟩ := (hr.fr f1).at (i := i) (by omega) hlt (hrow i hlt')
          simp only [go_sem, reduceIte, Nat.reduceAdd, Nat.reduceSub, Nat.reduceMul, Nat.reducePow, Nat.reduceLT, Nat.reduceLeDiff, Nat.reduceEqDiff, Int.reduceAdd, Int.reduceSub, Int.reduceMul, Int.reduceNeg, Int.reducePow, Int.reduceLT, Int.reduceLE, Int.reduceEq, Int.reduceNe, Int.reduceToNat, Int.toNat_natCast, Nat.zero_add, Nat.add_zero, Nat.mul_one, Nat.one_mul, Bool.not_true, Bool.not_false, ne_eq, not_true_eq_false, not_false_eq_true, Bool.false_eq_true, hlt, q1, q2]
          have hn := hL _ (List.getElem_mem hlt')
          have hcat : catL L = catL (L.take i) ++ putL (zig L[i]) ++ catL (L.drop (i + 1)) := by
            have e := congrArg catL (List.take_append_drop i L)
            rw [List.drop_eq_getElem_cons hlt', catL_append] at e
            rw [← e]
            simp only [catL, List.flatMap_cons, List.append_assoc]
          have hdec : decS (catL L) (catL (L.take i)).length = (L[i], ((catL (L.take i)).length : Int) + (putL (zig L[i])).length, true) := by
            have e := decS_putL (A := catL (L.take i)) (B := catL (L.drop (i + 1))) hn.1 hn.2
            rw [← hcat] at e
            exact e
          have hle : (catL (L.take i)).length ≤ (catL L).length := by rw [hcat]; simp only [List.length_append]; omega
          refine get_c ho.row (catL_lt L) (by omega) (by omega) (by omega) ?_
          rw [hdec]
          have hp := putL_pos (zig L[i])
          have e1 : ¬ (((catL (L.take i)).length : Int) + (putL (zig L[i])).length ≤ ((catL (L.take i)).length : Int)) := by omega
          have e2 : IntKind.i64.wrap ((i : Int) + 1) = ((i + 1 : Nat) : Int) := by rw [i64_id (by omega) (by omega)]; rfl
          simp only [decV, go_sem, reduceIte, Nat.reduceAdd, Nat.reduceSub, Nat.reduceMul, Nat.reducePow, Nat.reduceLT, Nat.reduceLeDiff, Nat.reduceEqDiff, Int.reduceAdd, Int.reduceSub, Int.reduceMul, Int.reduceNeg, Int.reducePow, Int.reduceLT, Int.reduceLE, Int.reduceEq, Int.reduceNe, Int.reduceToNat, Int.toNat_natCast, Nat.zero_add, Nat.add_zero, Nat.mul_one, Nat.one_mul, Bool.not_true, Bool.not_false, ne_eq, not_true_eq_false, not_false_eq_true, Bool.false_eq_true, e1, e2]
          refine ⟨L.length - (i + 1), by omega, i + 1, ?_, by omega, rfl⟩
          rw [List.take_succ_eq_append_getElem hlt', catL_append]
          simp [catL]
        · simp only [go_sem, reduceIte, Nat.reduceAdd, Nat.reduceSub, Nat.reduceMul, Nat.reducePow, Nat.reduceLT, Nat.reduceLeDiff, Nat.reduceEqDiff, Int.reduceAdd, Int.reduceSub, Int.reduceMul, Int.reduceNeg, Int.reducePow, Int.reduceLT, Int.reduceLE, Int.reduceEq, Int.reduceNe, Int.reduceToNat, Int.toNat_natCast, Nat.zero_add, Nat.add_zero, Nat.mul_one, Nat.one_mul, Bool.not_true, Bool.not_false, ne_eq, not_true_eq_false, not_false_eq_true, Bool.false_eq_true, hlt]
          have : i = L.length := by omega
          subst this
          rw [List.take_length]
          exact hJ
    · intro J hJ
      simp only [go_sem, reduceIte, Nat.reduceAdd, Nat.reduceSub, Nat.reduceMul, Nat.reducePow, Nat.reduceLT, Nat.reduceLeDiff, Nat.reduceEqDiff, Int.reduceAdd, Int.reduceSub, Int.reduceMul, Int.reduceNeg, Int.reducePow, Int.reduceLT, Int.reduceLE, Int.reduceEq, Int.reduceNe, Int.reduceToNat, Int.toNat_natCast, Nat.zero_add, Nat.add_zero, Nat.mul_one, Nat.one_mul, Bool.not_true, Bool.not_false, ne_eq, not_true_eq_false, not_false_eq_true, Bool.false_eq_true, hr.len]
      refine loop_r L.length (fun k l h' => ∃ (i : Nat) (b : AV), l = [b, .int .i64 i] ∧ i ≤ L.length ∧ Own h h' 5 1 b (catL (L.take i)).length (bc (catL (L.take i))) ∧ Fr [] h h' ∧ k = L.length - i) ⟨0, .nilsl, rfl, by omega, by simpa [catL, bc] using Own.nil h h 5 1, Fr.refl _ _, rfl⟩ ?_
      rintro k l h' ⟨i, b, rfl, hi, ho, f1, rfl⟩
      by_cases hlt : (i : Int) < L.length
      · have hlt' : i < L.length := by omega
        obtain ⟨b1, o1, q1, q2⟩ := (hr.fr f1).at (i := i) (by omega) hlt (hrow i hlt')
        simp only [go_sem, reduceIte, Nat.reduceAdd, Nat.reduceSub, Nat.reduceMul, Nat.reducePow, Nat.reduceLT, Nat.reduceLeDiff, Nat.reduceEqDiff, Int.reduceAdd, Int.reduceSub, Int.reduceMul, Int.reduceNeg, Int.reducePow, Int.reduceLT, Int.reduceLE, Int.reduceEq, Int.reduceNe, Int.reduceToNat, Int.toNat_natCast, Nat.zero_add, Nat.add_zero, Nat.mul_one, Nat.one_mul, Bool.not_true, Bool.not_false, ne_eq, not_true_eq_false, not_false_eq_true, Bool.false_eq_true, hlt, q1, q2]
        have hn := hL _ (List.getElem_mem hlt')
        refine put_c hn.1 hn.2 fun v1 h2 w1 f2 => ?_
        have hl1 := catL_len (L := L.take i) fun n hn => hL n (List.mem_of_mem_take hn)
        have hl2 := putL_len64 (zig_lt hn.1 hn.2)
        rw [List.length_take] at hl1
        refine append_own (ho.fr f2) w1.row.src (by simp [bc]) (by decide) (bc_leaves _) (bc_leaves _) (f1.trans f2) (by unfold most; omega) fun v3 h3 w3 f3 _ => ?_
        have e2 : IntKind.i64.wrap ((i : Int) + 1) = ((i + 1 : Nat) : Int) := by rw [i64_id (by omega) (by omega)]; rfl
        simp only [go_sem, reduceIte, Nat.reduceAdd, Nat.reduceSub, Nat.reduceMul, Nat.reducePow, Nat.reduceLT, Nat.reduceLeDiff, Nat.reduceEqDiff, Int.reduceAdd, Int.reduceSub, Int.reduceMul, Int.reduceNeg, Int.reducePow, Int.reduceLT, Int.reduceLE, Int.reduceEq, Int.reduceNe, Int.reduceToNat, Int.toNat_natCast, Nat.zero_add, Nat.add_zero, Nat.mul_one, Nat.one_mul, Bool.not_true, Bool.not_false, ne_eq, not_true_eq_false, not_false_eq_true, Bool.false_eq_true, e2]
        refine ⟨L.length - (i + 1), by omega, i + 1, v3, rfl, by omega, ?_, f3, rfl⟩
        rw [List.take_succ_eq_append_getElem hlt', catL_append]
        have : catL [L[i]] = putL (zig L[i]) := by simp [catL]
        rw [this, bc_append, List.length_append]
        exact w3
      · simp only [go_sem, reduceIte, Nat.reduceAdd, Nat.reduceSub, Nat.reduceMul, Nat.reducePow, Nat.reduceLT, Nat.reduceLeDiff, Nat.reduceEqDiff, Int.reduceAdd, Int.reduceSub, Int.reduceMul, Int.reduceNeg, Int.reducePow, Int.reduceLT, Int.reduceLE, Int.reduceEq, Int.reduceNe, Int.reduceToNat, Int.toNat_natCast, Nat.zero_add, Nat.add_zero, Nat.mul_one, Nat.one_mul, Bool.not_true, Bool.not_false, ne_eq, not_true_eq_false, not_false_eq_true, Bool.false_eq_true, hlt]
        have : i = L.length := by omega
        subst this
        rw [List.take_length] at ho
        exact hJ _ _ ho f1
  · intro J hJ
    by_cases h100 : (100 : Int) < L.length
    · obtain ⟨v', w1, w2⟩ := sl_none hr (j := 100) (by omega) (by omega)
      rw [show ((100 : Nat) : Int) = 100 from rfl] at w1
      simp only [go_sem, reduceIte, Nat.reduceAdd, Nat.reduceSub, Nat.reduceMul, Nat.reducePow, Nat.reduceLT, Nat.reduceLeDiff, Nat.reduceEqDiff, Int.reduceAdd, Int.reduceSub, Int.reduceMul, Int.reduceNeg, Int.reducePow, Int.reduceLT, Int.reduceLE, Int.reduceEq, Int.reduceNe, Int.reduceToNat, Int.toNat_natCast, Nat.zero_add, Nat.add_zero, Nat.mul_one, Nat.one_mul, Bool.not_true, Bool.not_false, ne_eq, not_true_eq_false, not_false_eq_true, Bool.false_eq_true, h100, w1]
      have hlt : (L.take 100).length = 100 := by rw [List.length_take]; omega
      refine hJ v' (L.take 100) ?_ (fun n hn => hL n (List.mem_of_mem_take hn)) (by omega)
      rw [hlt]
      have : ic (L.take 100) = (ic L).take (100 * 1) := by simp [ic]
      rw [this]; exact w2
    · simp only [go_sem, reduceIte, Nat.reduceAdd, Nat.reduceSub, Nat.reduceMul, Nat.reducePow, Nat.reduceLT, Nat.reduceLeDiff, Nat.reduceEqDiff, Int.reduceAdd, Int.reduceSub, Int.reduceMul, Int.reduceNeg, Int.reducePow, Int.reduceLT, Int.reduceLE, Int.reduceEq, Int.reduceNe, Int.reduceToNat, Int.toNat_natCast, Nat.zero_add, Nat.add_zero, Nat.mul_one, Nat.one_mul, Bool.not_true, Bool.not_false, ne_eq, not_true_eq_false, not_false_eq_true, Bool.false_eq_true, h100]
      exact hJ v L hr hL (by omega)
theorem law8 (h : H) (ls : List (List AV)) (hl : LiesA h [.sl (.int .i64), .int .i64, .int .i64] ls) : C 8 (argsOf [.sl (.int .i64), .int .i64, .int .i64] ls) h yes := by
  obtain ⟨l0, ls, rfl, h0, hl⟩ := liesA_cons hl
  obtain ⟨l1, ls, rfl, h1, hl⟩ := liesA_cons hl
  obtain ⟨l2, ls, rfl, h2, hl⟩ := liesA_cons hl
  obtain rfl := liesA_nil hl
  obtain ⟨v, L, rfl, hr, hL, hm⟩ := lies_ints h0
  obtain ⟨x, rfl, x0, x1⟩ := lies_i64 h1
  obtain ⟨y, rfl, y0, y1⟩ := lies_i64 h2
  exact wordBack_c hr hL x0 (by omega) y0 (by omega)
end
end Go.Proofs.Ytljkkfcokpimkaa.X
