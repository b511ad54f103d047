/- The heap's fields and bytes; the document's example of the heap. -/
import Derived.Test.YtljkkfcokpimkaaV4
set_option linter.unusedVariables false
set_option linter.unusedSimpArgs false
set_option maxRecDepth 20000
namespace Go.Proofs.Ytljkkfcokpimkaa.X
open Go Go.RowKit

def hasO (lays : List (Int × Int)) (os : List Ob) (a i : Int) (bytes : Bool) : Bool :=
  match findO os a with
  | some o => decide ((decide (kindAt lays o.sh = 3)) = bytes) && (decide (0 ≤ i) && decide (i < o.n))
  | none => false
def fitsO (os : List Ob) (w : Int) : Bool := decide (w % 2 = 1) || (findO os (w / 2)).isSome
def setO : List Ob → Int → Nat → Int → List Ob
  | [], _, _, _ => []
  | o :: os, a, i, w => if a = 0 then { o with body := o.body.set i w } :: os else o :: setO os (a - o.row.length) i w
theorem setO_row : ∀ (os : List Ob) (a : Int) (i : Nat) (w : Int) (o : Ob), findO os a = some o → i < o.body.length → rowOf (setO os a i w) = (rowOf os).set (a.toNat + 1 + i) w
  | [], _, _, _, _, h, _ => by cases h
  | x :: os, a, i, w, o, h, hi => by
    rw [findO] at h
    rw [setO]
    split at h
    · rename_i h0
      injection h with h
      subst h
      rw [if_pos h0, rowOf_cons, rowOf_cons, h0, List.set_append_left _ _ (by simp [Ob.row]; omega)]
      simp only [Ob.row, Int.toNat_zero, Nat.zero_add]
      rw [Nat.add_comm 1 i, List.set_cons_succ]
    · rename_i h0
      have hlt := findO_lt os _ o h
      rw [if_neg h0, rowOf_cons, rowOf_cons, setO_row os _ i w o h hi, List.set_append_right _ _ (by omega)]
      congr 2; omega
theorem setO_find : ∀ (os : List Ob) (a : Int) (i : Nat) (w : Int) (a' : Int), findO (setO os a i w) a' = (findO os a').map fun o => if a' = a then { o with body := o.body.set i w } else o
  | [], _, _, _, _ => rfl
  | x :: os, a, i, w, a' => by
    rw [setO]
    by_cases h0 : a = 0
    · subst h0
      rw [if_pos rfl, findO, findO]
      by_cases h1 : a' = 0
      · rw [if_pos h1, if_pos h1]; simp [h1]
      · rw [if_neg h1, if_neg h1]
        have : ({ x with body := x.body.set i w } : Ob).row.length = x.row.length := by simp [Ob.row]
        rw [this]
        cases findO os (a' - x.row.length) <;> simp [h1]
    · rw [if_neg h0, findO, findO, setO_find os _ i w _]
      by_cases h1 : a' = 0
      · rw [if_pos h1, if_pos h1]
        have : ¬ a' = a := by omega
        simp [this]
      · rw [if_neg h1, if_neg h1]
        have : (a' - (x.row.length : Int) = a - x.row.length) ↔ a' = a := by omega
        simp only [this]
theorem setO_mem : ∀ (os : List Ob) (a : Int) (i : Nat) (w : Int) (o : Ob), o ∈ setO os a i w → ∃ o' ∈ os, o.sh = o'.sh ∧ o.n = o'.n ∧ o.row.length = o'.row.length
  | [], _, _, _, _, h => by cases h
  | x :: os, a, i, w, o, h => by
    rw [setO] at h
    split at h
    · rcases List.mem_cons.1 h with rfl | h
      · exact ⟨x, by simp, rfl, rfl, by simp [Ob.row]⟩
      · exact ⟨o, by simp [h], rfl, rfl, rfl⟩
    · rcases List.mem_cons.1 h with rfl | h
      · exact ⟨o, by simp, rfl, rfl, rfl⟩
      · obtain ⟨o', h1, h2⟩ := setO_mem os _ i w o h
        exact ⟨o', by simp [h1], h2⟩
theorem good_put {s : Hs} (g : s.good) (a : Int) {w : Int} (w0 : 0 ≤ w) (w1 : w < 18446744073709551616) : (s.put a w).good := by
  refine ⟨by simpa [Hs.put] using g.wlen, by simpa [Hs.put] using g.hlen, g.llen, g.kinds, fun x hx => ?_, g.hrange, by simpa [Hs.put] using g.top⟩
  rcases List.mem_or_eq_of_mem_set hx with hx | rfl
  · exact g.wrange x hx
  · exact ⟨w0, w1⟩
theorem abs_set {s : Hs} {os : List Ob} (A : Abs s os) {a : Int} {i : Nat} {w : Int} {o : Ob} (h : findO os a = some o) (hi : i < o.body.length) (w0 : 0 ≤ w) (w1 : w < 18446744073709551616) : Abs (s.put (a + 1 + i) w) (setO os a i w) := by
  have hlt := findO_lt os a o h
  have hbl : o.row.length = o.body.length + 1 := by simp [Ob.row]
  have ea : (a + 1 + (i : Int)).toNat = a.toNat + 1 + i := by omega
  refine ⟨good_put A.good _ w0 w1, ?_, ?_, fun b hb => ?_, fun x hx => ?_⟩
  · simp only [Hs.put, ea, List.length_set]
    rw [setO_row os a i w o h hi, List.length_set]
    conv => lhs; rw [A.words]
    rw [List.set_append_left _ _ (by omega)]
  · rw [setO_row os a i w o h hi, List.length_set]; exact A.top
  · have := A.bits b hb
    rw [setO_find]
    simpa [Hs.bit, Hs.put] using this
  · obtain ⟨o', h1, h2, h3, h4⟩ := setO_mem os a i w x hx
    rw [h2, h3, h4]
    exact A.each o' h1
section
variable {h : H} {b bw bd : Nat} {B : List Nat} {s : Hs} {os : List Ob}
theorem fits_a (hh : HeapAt h b bw bd B s) (A : Abs s os) {w : Int} (w0 : 0 ≤ w) (w1 : w < 18446744073709551616) (K : AV → H → Prop) : C 68 [.ptr b 0, .int .u64 w] h K = K (.bool (fitsO os w)) h := by
  rw [fits_c hh A.good w0 w1]
  unfold Hs.fits fitsO
  rw [A.isAt]
theorem is_a (hh : HeapAt h b bw bd B s) (A : Abs s os) (a : Int) (K : AV → H → Prop) : C 56 [.ptr b 0, .int .i64 a] h K = K (.bool (findO os a).isSome) h := by
  rw [is_c hh A.good, A.isAt]
theorem has_nil (a i : AV) (c : Bool) (K : AV → H → Prop) : C 101 [.nilp, a, i, .bool c] h K = K (.bool false) h := by
  refine callA_eq (run101 ?_) K
  simp only [sh101, go_sem, reduceIte, Nat.reduceAdd, Nat.reduceSub, Nat.reduceMul, Nat.reducePow, Nat.reduceLT, Nat.reduceLeDiff, Nat.reduceEqDiff, Int.reduceAdd, Int.reduceSub, Int.reduceMul, Int.reduceNeg, Int.reducePow, Int.reduceLT, Int.reduceLE, Int.reduceEq, Int.reduceNe, Int.reduceToNat, Int.toNat_natCast, Nat.zero_add, Nat.add_zero, Nat.mul_one, Nat.one_mul, Bool.not_true, Bool.not_false, ne_eq, not_true_eq_false, not_false_eq_true, Bool.false_eq_true, is_nil]
theorem has_a (hh : HeapAt h b bw bd B s) (A : Abs s os) (a i : Int) (c : Bool) (K : AV → H → Prop) : C 101 [.ptr b 0, .int .i64 a, .int .i64 i, .bool c] h K = K (.bool (hasO s.lays os a i c)) h := by
  refine callA_eq (run101 ?_) K
  obtain ⟨lv, cc, r, _⟩ := hh.cells
  unfold hasO
  cases hf : findO os a with
  | none => simp only [sh101, go_sem, reduceIte, Nat.reduceAdd, Nat.reduceSub, Nat.reduceMul, Nat.reducePow, Nat.reduceLT, Nat.reduceLeDiff, Nat.reduceEqDiff, Int.reduceAdd, Int.reduceSub, Int.reduceMul, Int.reduceNeg, Int.reducePow, Int.reduceLT, Int.reduceLE, Int.reduceEq, Int.reduceNe, Int.reduceToNat, Int.toNat_natCast, Nat.zero_add, Nat.add_zero, Nat.mul_one, Nat.one_mul, Bool.not_true, Bool.not_false, ne_eq, not_true_eq_false, not_false_eq_true, Bool.false_eq_true, is_a hh A, hf, Option.isSome_none]
  | some o =>
    obtain ⟨t1, t2, t3, t4, t5, t6, t7, t8, t9, t10, t11⟩ := A.at hf
    have g3 := A.good.top
    have hp := row_pos o
    have i1 : a < (s.words.length : Nat) := by omega
    have wr := A.good.wdr a
    obtain ⟨bl, q, q1, q2, q3, q4⟩ := r.lay (lay_get (L := s.lays) t4 t5)
    have hi : ((o.sh.toNat : Nat) : Int) = o.sh := by omega
    rw [hi] at q1
    have sc : ∀ (h : H) K, C 33 [.int .u64 (s.wd a)] h K = K (.int .i64 o.sh) h := fun h K => by rw [shape_c wr.1 wr.2]; unfold shapeOf at t2; rw [t2]
    have lc' : ∀ (h : H) K, C 35 [.int .u64 (s.wd a)] h K = K (.int .i64 o.n) h := fun h K => by rw [len_c wr.1 wr.2]; unfold lenOf at t3; rw [t3]
    by_cases k1 : (decide (kindAt s.lays o.sh = 3)) = c
    · by_cases k2 : 0 ≤ i
      · simp only [sh101, go_sem, reduceIte, Nat.reduceAdd, Nat.reduceSub, Nat.reduceMul, Nat.reducePow, Nat.reduceLT, Nat.reduceLeDiff, Nat.reduceEqDiff, Int.reduceAdd, Int.reduceSub, Int.reduceMul, Int.reduceNeg, Int.reducePow, Int.reduceLT, Int.reduceLE, Int.reduceEq, Int.reduceNe, Int.reduceToNat, Int.toNat_natCast, Nat.zero_add, Nat.add_zero, Nat.mul_one, Nat.one_mul, Bool.not_true, Bool.not_false, ne_eq, not_true_eq_false, not_false_eq_true, Bool.false_eq_true, is_a hh A, hf, Option.isSome_some, cc, t8, i1, hh.word t8 i1, sc, q1, q2, k1, k2, lc', Bool.true_and]
      · simp only [sh101, go_sem, reduceIte, Nat.reduceAdd, Nat.reduceSub, Nat.reduceMul, Nat.reducePow, Nat.reduceLT, Nat.reduceLeDiff, Nat.reduceEqDiff, Int.reduceAdd, Int.reduceSub, Int.reduceMul, Int.reduceNeg, Int.reducePow, Int.reduceLT, Int.reduceLE, Int.reduceEq, Int.reduceNe, Int.reduceToNat, Int.toNat_natCast, Nat.zero_add, Nat.add_zero, Nat.mul_one, Nat.one_mul, Bool.not_true, Bool.not_false, ne_eq, not_true_eq_false, not_false_eq_true, Bool.false_eq_true, is_a hh A, hf, Option.isSome_some, cc, t8, i1, hh.word t8 i1, sc, q1, q2, k1, k2, lc', Bool.true_and, Bool.false_and]
    · simp only [sh101, go_sem, reduceIte, Nat.reduceAdd, Nat.reduceSub, Nat.reduceMul, Nat.reducePow, Nat.reduceLT, Nat.reduceLeDiff, Nat.reduceEqDiff, Int.reduceAdd, Int.reduceSub, Int.reduceMul, Int.reduceNeg, Int.reducePow, Int.reduceLT, Int.reduceLE, Int.reduceEq, Int.reduceNe, Int.reduceToNat, Int.toNat_natCast, Nat.zero_add, Nat.add_zero, Nat.mul_one, Nat.one_mul, Bool.not_true, Bool.not_false, ne_eq, not_true_eq_false, not_false_eq_true, Bool.false_eq_true, is_a hh A, hf, Option.isSome_some, cc, t8, i1, hh.word t8 i1, sc, q1, q2, k1, lc', Bool.false_and]
theorem hasO_some {lays : List (Int × Int)} {a i : Int} {c : Bool} (hq : hasO lays os a i c = true) : ∃ o, findO os a = some o ∧ (decide (kindAt lays o.sh = 3)) = c ∧ 0 ≤ i ∧ i < o.n := by
  unfold hasO at hq
  split at hq
  · rename_i o ho
    simp only [Bool.and_eq_true, decide_eq_true_eq] at hq
    exact ⟨o, ho, hq.1, hq.2.1, hq.2.2⟩
  · cases hq
theorem Abs.body {a : Int} {o : Ob} (A : Abs s os) (hf : findO os a = some o) : (o.body.length : Int) = (if kindAt s.lays o.sh = 3 then (o.n + 7) / 8 else o.n) := by
  obtain ⟨t1, t2, t3, t4, t5, t6, t7, t8, t9, t10, t11⟩ := A.at hf
  have : o.row.length = o.body.length + 1 := by simp [Ob.row]
  rw [this] at t10
  split at t10 <;> rename_i hk
  · rw [if_pos hk]; omega
  · rw [if_neg hk]; omega
theorem get_a (hh : HeapAt h b bw bd B s) (A : Abs s os) {a i : Int} (ha : a < 9223372036854775000) (K : AV → H → Prop) : C 64 [.ptr b 0, .int .i64 a, .int .i64 i] h K =
    K (if hasO s.lays os a i false then .tup [.int .u64 (s.wd (a + 1 + i)), .int .i64 0] else .tup [.int .u64 0, .int .i64 1]) h := by
  refine callA_eq (run64 ?_) K
  obtain ⟨lv, cc, r, _⟩ := hh.cells
  cases hq : hasO s.lays os a i false with
  | false => simp only [sh64, go_sem, reduceIte, Nat.reduceAdd, Nat.reduceSub, Nat.reduceMul, Nat.reducePow, Nat.reduceLT, Nat.reduceLeDiff, Nat.reduceEqDiff, Int.reduceAdd, Int.reduceSub, Int.reduceMul, Int.reduceNeg, Int.reducePow, Int.reduceLT, Int.reduceLE, Int.reduceEq, Int.reduceNe, Int.reduceToNat, Int.toNat_natCast, Nat.zero_add, Nat.add_zero, Nat.mul_one, Nat.one_mul, Bool.not_true, Bool.not_false, ne_eq, not_true_eq_false, not_false_eq_true, Bool.false_eq_true, has_a hh A, hq]
  | true =>
    obtain ⟨o, hf, k1, k2, k3⟩ := hasO_some hq
    obtain ⟨t1, t2, t3, t4, t5, t6, t7, t8, t9, t10, t11⟩ := A.at hf
    have g3 := A.good.top; have g1 := A.good.wlen
    rw [if_neg (by simpa using k1)] at t10
    have e1 : IntKind.i64.wrap (IntKind.i64.wrap (a + 1) + i) = a + 1 + i := by rw [i64_id (n := a + 1) (by omega) (by omega), i64_id (by omega) (by omega)]
    have i0 : 0 ≤ a + 1 + i := by omega
    have i1 : a + 1 + i < (s.words.length : Nat) := by omega
    simp only [sh64, go_sem, reduceIte, Nat.reduceAdd, Nat.reduceSub, Nat.reduceMul, Nat.reducePow, Nat.reduceLT, Nat.reduceLeDiff, Nat.reduceEqDiff, Int.reduceAdd, Int.reduceSub, Int.reduceMul, Int.reduceNeg, Int.reducePow, Int.reduceLT, Int.reduceLE, Int.reduceEq, Int.reduceNe, Int.reduceToNat, Int.toNat_natCast, Nat.zero_add, Nat.add_zero, Nat.mul_one, Nat.one_mul, Bool.not_true, Bool.not_false, ne_eq, not_true_eq_false, not_false_eq_true, Bool.false_eq_true, has_a hh A, hq, cc, e1, i0, i1, hh.word i0 i1]
theorem set_a (hh : HeapAt h b bw bd B s) (A : Abs s os) {a i w : Int} (w0 : 0 ≤ w) (w1 : w < 18446744073709551616) (K : AV → H → Prop) : C 63 [.ptr b 0, .int .i64 a, .int .i64 i, .int .u64 w] h K =
    K (.int .i64 (if hasO s.lays os a i false && fitsO os w then 0 else 1)) (if hasO s.lays os a i false && fitsO os w then h.set bw (.live (wc (s.put (a + 1 + i) w).words) 25 true) else h) := by
  refine callA_eq (run63 ?_) K
  obtain ⟨lv, cc, r, _⟩ := hh.cells
  cases hq : hasO s.lays os a i false with
  | false => simp only [sh63, go_sem, reduceIte, Nat.reduceAdd, Nat.reduceSub, Nat.reduceMul, Nat.reducePow, Nat.reduceLT, Nat.reduceLeDiff, Nat.reduceEqDiff, Int.reduceAdd, Int.reduceSub, Int.reduceMul, Int.reduceNeg, Int.reducePow, Int.reduceLT, Int.reduceLE, Int.reduceEq, Int.reduceNe, Int.reduceToNat, Int.toNat_natCast, Nat.zero_add, Nat.add_zero, Nat.mul_one, Nat.one_mul, Bool.not_true, Bool.not_false, ne_eq, not_true_eq_false, not_false_eq_true, Bool.false_eq_true, has_a hh A, hq, Bool.false_and]
  | true =>
    cases hw : fitsO os w with
    | false => simp only [sh63, go_sem, reduceIte, Nat.reduceAdd, Nat.reduceSub, Nat.reduceMul, Nat.reducePow, Nat.reduceLT, Nat.reduceLeDiff, Nat.reduceEqDiff, Int.reduceAdd, Int.reduceSub, Int.reduceMul, Int.reduceNeg, Int.reducePow, Int.reduceLT, Int.reduceLE, Int.reduceEq, Int.reduceNe, Int.reduceToNat, Int.toNat_natCast, Nat.zero_add, Nat.add_zero, Nat.mul_one, Nat.one_mul, Bool.not_true, Bool.not_false, ne_eq, not_true_eq_false, not_false_eq_true, Bool.false_eq_true, has_a hh A, hq, fits_a hh A w0 w1, hw, Bool.true_and]
    | true =>
      obtain ⟨o, hf, k1, k2, k3⟩ := hasO_some hq
      obtain ⟨t1, t2, t3, t4, t5, t6, t7, t8, t9, t10, t11⟩ := A.at hf
      have g3 := A.good.top; have g1 := A.good.wlen
      rw [if_neg (by simpa using k1)] at t10
      have e1 : IntKind.i64.wrap (IntKind.i64.wrap (a + 1) + i) = a + 1 + i := by rw [i64_id (n := a + 1) (by omega) (by omega), i64_id (by omega) (by omega)]
      have i0 : 0 ≤ a + 1 + i := by omega
      have i1 : a + 1 + i < (s.words.length : Nat) := by omega
      simp only [sh63, go_sem, reduceIte, Nat.reduceAdd, Nat.reduceSub, Nat.reduceMul, Nat.reducePow, Nat.reduceLT, Nat.reduceLeDiff, Nat.reduceEqDiff, Int.reduceAdd, Int.reduceSub, Int.reduceMul, Int.reduceNeg, Int.reducePow, Int.reduceLT, Int.reduceLE, Int.reduceEq, Int.reduceNe, Int.reduceToNat, Int.toNat_natCast, Nat.zero_add, Nat.add_zero, Nat.mul_one, Nat.one_mul, Bool.not_true, Bool.not_false, ne_eq, not_true_eq_false, not_false_eq_true, Bool.false_eq_true, has_a hh A, hq, fits_a hh A w0 w1, hw, Bool.true_and, cc, e1, i0, i1, hh.st_word i0 i1]
theorem set_nil (a i w : AV) (K : AV → H → Prop) : C 63 [.nilp, a, i, w] h K = K (.int .i64 1) h := by
  refine callA_eq (run63 ?_) K
  simp only [sh63, go_sem, reduceIte, Nat.reduceAdd, Nat.reduceSub, Nat.reduceMul, Nat.reducePow, Nat.reduceLT, Nat.reduceLeDiff, Nat.reduceEqDiff, Int.reduceAdd, Int.reduceSub, Int.reduceMul, Int.reduceNeg, Int.reducePow, Int.reduceLT, Int.reduceLE, Int.reduceEq, Int.reduceNe, Int.reduceToNat, Int.toNat_natCast, Nat.zero_add, Nat.add_zero, Nat.mul_one, Nat.one_mul, Bool.not_true, Bool.not_false, ne_eq, not_true_eq_false, not_false_eq_true, Bool.false_eq_true, has_nil]
theorem get_nil (a i : AV) (K : AV → H → Prop) : C 64 [.nilp, a, i] h K = K (.tup [.int .u64 0, .int .i64 1]) h := by
  refine callA_eq (run64 ?_) K
  simp only [sh64, go_sem, reduceIte, Nat.reduceAdd, Nat.reduceSub, Nat.reduceMul, Nat.reducePow, Nat.reduceLT, Nat.reduceLeDiff, Nat.reduceEqDiff, Int.reduceAdd, Int.reduceSub, Int.reduceMul, Int.reduceNeg, Int.reducePow, Int.reduceLT, Int.reduceLE, Int.reduceEq, Int.reduceNe, Int.reduceToNat, Int.toNat_natCast, Nat.zero_add, Nat.add_zero, Nat.mul_one, Nat.one_mul, Bool.not_true, Bool.not_false, ne_eq, not_true_eq_false, not_false_eq_true, Bool.false_eq_true, has_nil]
theorem byte_nil (a i : AV) (K : AV → H → Prop) : C 66 [.nilp, a, i] h K = K (.tup [.int .u8 0, .int .i64 1]) h := by
  refine callA_eq (run66 ?_) K
  simp only [sh66, go_sem, reduceIte, Nat.reduceAdd, Nat.reduceSub, Nat.reduceMul, Nat.reducePow, Nat.reduceLT, Nat.reduceLeDiff, Nat.reduceEqDiff, Int.reduceAdd, Int.reduceSub, Int.reduceMul, Int.reduceNeg, Int.reducePow, Int.reduceLT, Int.reduceLE, Int.reduceEq, Int.reduceNe, Int.reduceToNat, Int.toNat_natCast, Nat.zero_add, Nat.add_zero, Nat.mul_one, Nat.one_mul, Bool.not_true, Bool.not_false, ne_eq, not_true_eq_false, not_false_eq_true, Bool.false_eq_true, has_nil]
theorem setByte_nil (a i c : AV) (K : AV → H → Prop) : C 65 [.nilp, a, i, c] h K = K (.int .i64 1) h := by
  refine callA_eq (run65 ?_) K
  simp only [sh65, go_sem, reduceIte, Nat.reduceAdd, Nat.reduceSub, Nat.reduceMul, Nat.reducePow, Nat.reduceLT, Nat.reduceLeDiff, Nat.reduceEqDiff, Int.reduceAdd, Int.reduceSub, Int.reduceMul, Int.reduceNeg, Int.reducePow, Int.reduceLT, Int.reduceLE, Int.reduceEq, Int.reduceNe, Int.reduceToNat, Int.toNat_natCast, Nat.zero_add, Nat.add_zero, Nat.mul_one, Nat.one_mul, Bool.not_true, Bool.not_false, ne_eq, not_true_eq_false, not_false_eq_true, Bool.false_eq_true, has_nil]
theorem shape_nil (a : AV) (K : AV → H → Prop) : C 81 [.nilp, a] h K = K (.tup [.int .i64 0, .int .i64 1]) h := by
  refine callA_eq (run81 ?_) K
  simp only [sh81, go_sem, reduceIte, Nat.reduceAdd, Nat.reduceSub, Nat.reduceMul, Nat.reducePow, Nat.reduceLT, Nat.reduceLeDiff, Nat.reduceEqDiff, Int.reduceAdd, Int.reduceSub, Int.reduceMul, Int.reduceNeg, Int.reducePow, Int.reduceLT, Int.reduceLE, Int.reduceEq, Int.reduceNe, Int.reduceToNat, Int.toNat_natCast, Nat.zero_add, Nat.add_zero, Nat.mul_one, Nat.one_mul, Bool.not_true, Bool.not_false, ne_eq, not_true_eq_false, not_false_eq_true, Bool.false_eq_true, is_nil]
theorem len_nil (a : AV) (K : AV → H → Prop) : C 72 [.nilp, a] h K = K (.tup [.int .i64 0, .int .i64 1]) h := by
  refine callA_eq (run72 ?_) K
  simp only [sh72, go_sem, reduceIte, Nat.reduceAdd, Nat.reduceSub, Nat.reduceMul, Nat.reducePow, Nat.reduceLT, Nat.reduceLeDiff, Nat.reduceEqDiff, Int.reduceAdd, Int.reduceSub, Int.reduceMul, Int.reduceNeg, Int.reducePow, Int.reduceLT, Int.reduceLE, Int.reduceEq, Int.reduceNe, Int.reduceToNat, Int.toNat_natCast, Nat.zero_add, Nat.add_zero, Nat.mul_one, Nat.one_mul, Bool.not_true, Bool.not_false, ne_eq, not_true_eq_false, not_false_eq_true, Bool.false_eq_true, is_nil]
theorem text_nil (a : AV) (K : AV → H → Prop) : C 71 [.nilp, a] h K = K (.tup [.str [], .int .i64 1]) h := by
  refine callA_eq (run71 ?_) K
  simp only [sh71, go_sem, reduceIte, Nat.reduceAdd, Nat.reduceSub, Nat.reduceMul, Nat.reducePow, Nat.reduceLT, Nat.reduceLeDiff, Nat.reduceEqDiff, Int.reduceAdd, Int.reduceSub, Int.reduceMul, Int.reduceNeg, Int.reducePow, Int.reduceLT, Int.reduceLE, Int.reduceEq, Int.reduceNe, Int.reduceToNat, Int.toNat_natCast, Nat.zero_add, Nat.add_zero, Nat.mul_one, Nat.one_mul, Bool.not_true, Bool.not_false, ne_eq, not_true_eq_false, not_false_eq_true, Bool.false_eq_true, is_nil]
theorem close_nil (a : AV) (K : AV → H → Prop) : C 80 [.nilp, a] h K = K (.int .i64 1) h := by
  refine callA_eq (run80 ?_) K
  simp only [sh80, go_sem, reduceIte, Nat.reduceAdd, Nat.reduceSub, Nat.reduceMul, Nat.reducePow, Nat.reduceLT, Nat.reduceLeDiff, Nat.reduceEqDiff, Int.reduceAdd, Int.reduceSub, Int.reduceMul, Int.reduceNeg, Int.reducePow, Int.reduceLT, Int.reduceLE, Int.reduceEq, Int.reduceNe, Int.reduceToNat, Int.toNat_natCast, Nat.zero_add, Nat.add_zero, Nat.mul_one, Nat.one_mul, Bool.not_true, Bool.not_false, ne_eq, not_true_eq_false, not_false_eq_true, Bool.false_eq_true]
theorem objects_nil (K : AV → H → Prop) : C 59 [.nilp] h K = K .nilsl h := by
  refine callA_eq (run59 ?_) K
  simp only [sh59, joinA, go_sem, reduceIte, Nat.reduceAdd, Nat.reduceSub, Nat.reduceMul, Nat.reducePow, Nat.reduceLT, Nat.reduceLeDiff, Nat.reduceEqDiff, Int.reduceAdd, Int.reduceSub, Int.reduceMul, Int.reduceNeg, Int.reducePow, Int.reduceLT, Int.reduceLE, Int.reduceEq, Int.reduceNe, Int.reduceToNat, Int.toNat_natCast, Nat.zero_add, Nat.add_zero, Nat.mul_one, Nat.one_mul, Bool.not_true, Bool.not_false, ne_eq, not_true_eq_false, not_false_eq_true, Bool.false_eq_true, top_nil]
  exact loop_r 0 (fun n l h' => l = [.nilsl, .int .i64 0] ∧ h' = h) ⟨rfl, rfl⟩ (by rintro n l h' ⟨rfl, rfl⟩; simp only [go_sem, reduceIte, Nat.reduceAdd, Nat.reduceSub, Nat.reduceMul, Nat.reducePow, Nat.reduceLT, Nat.reduceLeDiff, Nat.reduceEqDiff, Int.reduceAdd, Int.reduceSub, Int.reduceMul, Int.reduceNeg, Int.reducePow, Int.reduceLT, Int.reduceLE, Int.reduceEq, Int.reduceNe, Int.reduceToNat, Int.toNat_natCast, Nat.zero_add, Nat.add_zero, Nat.mul_one, Nat.one_mul, Bool.not_true, Bool.not_false, ne_eq, not_true_eq_false, not_false_eq_true, Bool.false_eq_true])
end
end Go.Proofs.Ytljkkfcokpimkaa.X
