/- What the law law27 needs: texts of one's own, put together; functions' contracts and plain facts. -/
import Derived.Test.YtljkkfcokpimkaaT27A
set_option linter.unusedVariables false
set_option linter.unusedSimpArgs false
set_option maxRecDepth 20000
namespace Go.Proofs.Ytljkkfcokpimkaa.X
open Go Go.RowKit
def hasO (lays : List (Int × Int)) (os : List Ob) (a i : Int) (bytes : Bool) : Bool :=
  match findO os a with
  | some o => decide ((decide (kindAt lays o.sh = 3)) = bytes) && (decide (0 ≤ i) && decide (i < o.n))
  | none => false
def fitsO (os : List Ob) (w : Int) : Bool := decide (w % 2 = 1) || (findO os (w / 2)).isSome
def setO : List Ob → Int → Nat → Int → List Ob
  | [], _, _, _ => []
  | o :: os, a, i, w => if a = 0 then { o with body := o.body.set i w } :: os else o :: setO os (a - o.row.length) i w
theorem setO_row : ∀ (os : List Ob) (a : Int) (i : Nat) (w : Int) (o : Ob), findO os a = some o → i < o.body.length → rowOf (setO os a i w) = (rowOf os).set (a.toNat + 1 + i) w
  | [], _, _, _, _, h, _ => by cases h
  | x :: os, a, i, w, o, h, hi => by
    rw [findO] at h
    rw [setO]
    split at h
    · rename_i h0
      injection h with h
      subst h
      rw [if_pos h0, rowOf_cons, rowOf_cons, h0, List.set_append_left _ _ (by simp [Ob.row]; omega)]
      simp only [Ob.row, Int.toNat_zero, Nat.zero_add]
      rw [Nat.add_comm 1 i, List.set_cons_succ]
    · rename_i h0
      have hlt := findO_lt os _ o h
      rw [if_neg h0, rowOf_cons, rowOf_cons, setO_row os _ i w o h hi, List.set_append_right _ _ (by omega)]
      congr 2; omega
theorem setO_find : ∀ (os : List Ob) (a : Int) (i : Nat) (w : Int) (a' : Int), findO (setO os a i w) a' = (findO os a').map fun o => if a' = a then { o with body := o.body.set i w } else o
  | [], _, _, _, _ => rfl
  | x :: os, a, i, w, a' => by
    rw [setO]
    by_cases h0 : a = 0
    · subst h0
      rw [if_pos rfl, findO, findO]
      by_cases h1 : a' = 0
      · rw [if_pos h1, if_pos h1]; simp [h1]
      · rw [if_neg h1, if_neg h1]
        have : ({ x with body := x.body.set i w } : Ob).row.length = x.row.length := by simp [Ob.row]
        rw [this]
        cases findO os (a' - x.row.length) <;> simp [h1]
    · rw [if_neg h0, findO, findO, setO_find os _ i w _]
      by_cases h1 : a' = 0
      · rw [if_pos h1, if_pos h1]
        have : ¬ a' = a := by omega
        simp [this]
      · rw [if_neg h1, if_neg h1]
        have : (a' - (x.row.length : Int) = a - x.row.length) ↔ a' = a := by omega
        simp only [this]
theorem setO_mem : ∀ (os : List Ob) (a : Int) (i : Nat) (w : Int) (o : Ob), o ∈ setO os a i w → ∃ o' ∈ os, o.sh = o'.sh ∧ o.n = o'.n ∧ o.row.length = o'.row.length
  | [], _, _, _, _, h => by cases h
  | x :: os, a, i, w, o, h => by
    rw [setO] at h
    split at h
    · rcases List.mem_cons.1 h with rfl | h
      · exact ⟨x, by simp, rfl, rfl, by simp [Ob.row]⟩
      · exact ⟨o, by simp [h], rfl, rfl, rfl⟩
    · rcases List.mem_cons.1 h with rfl | h
      · exact ⟨o, by simp, rfl, rfl, rfl⟩
      · obtain ⟨o', h1, h2⟩ := setO_mem os _ i w o h
        exact ⟨o', by simp [h1], h2⟩
theorem good_put {s : Hs} (g : s.good) (a : Int) {w : Int} (w0 : 0 ≤ w) (w1 : w < 18446744073709551616) : (s.put a w).good := by
  refine ⟨by simpa [Hs.put] using g.wlen, by simpa [Hs.put] using g.hlen, g.llen, g.kinds, fun x hx => ?_, g.hrange, by simpa [Hs.put] using g.top⟩
  rcases List.mem_or_eq_of_mem_set hx with hx | rfl
  · exact g.wrange x hx
  · exact ⟨w0, w1⟩
theorem abs_set {s : Hs} {os : List Ob} (A : Abs s os) {a : Int} {i : Nat} {w : Int} {o : Ob} (h : findO os a = some o) (hi : i < o.body.length) (w0 : 0 ≤ w) (w1 : w < 18446744073709551616) : Abs (s.put (a + 1 + i) w) (setO os a i w) := by
  have hlt := findO_lt os a o h
  have hbl : o.row.length = o.body.length + 1 := by simp [Ob.row]
  have ea : (a + 1 + (i : Int)).toNat = a.toNat + 1 + i := by omega
  refine ⟨good_put A.good _ w0 w1, ?_, ?_, fun b hb => ?_, fun x hx => ?_⟩
  · simp only [Hs.put, ea, List.length_set]
    rw [setO_row os a i w o h hi, List.length_set]
    conv => lhs; rw [A.words]
    rw [List.set_append_left _ _ (by omega)]
  · rw [setO_row os a i w o h hi, List.length_set]; exact A.top
  · have := A.bits b hb
    rw [setO_find]
    simpa [Hs.bit, Hs.put] using this
  · obtain ⟨o', h1, h2, h3, h4⟩ := setO_mem os a i w x hx
    rw [h2, h3, h4]
    exact A.each o' h1
section
variable {h : H} {b bw bd : Nat} {B : List Nat} {s : Hs} {os : List Ob}
theorem fits_a (hh : HeapAt h b bw bd B s) (A : Abs s os) {w : Int} (w0 : 0 ≤ w) (w1 : w < 18446744073709551616) (K : AV → H → Prop) : C 68 [.ptr b 0, .int .u64 w] h K = K (.bool (fitsO os w)) h := by
  rw [fits_c hh A.good w0 w1]
  unfold Hs.fits fitsO
  rw [A.isAt]
theorem is_a (hh : HeapAt h b bw bd B s) (A : Abs s os) (a : Int) (K : AV → H → Prop) : C 56 [.ptr b 0, .int .i64 a] h K = K (.bool (findO os a).isSome) h := by
  rw [is_c hh A.good, A.isAt]
theorem has_a (hh : HeapAt h b bw bd B s) (A : Abs s os) (a i : Int) (c : Bool) (K : AV → H → Prop) : C 101 [.ptr b 0, .int .i64 a, .int .i64 i, .bool c] h K = K (.bool (hasO s.lays os a i c)) h := by
  refine callA_eq (run101 ?_) K
  obtain ⟨lv, cc, r, _⟩ := hh.cells
  unfold hasO
  cases hf : findO os a with
  | none => simp only [sh101, go_sem, reduceIte, Nat.reduceAdd, Nat.reduceSub, Nat.reduceMul, Nat.reducePow, Nat.reduceLT, Nat.reduceLeDiff, Nat.reduceEqDiff, Int.reduceAdd, Int.reduceSub, Int.reduceMul, Int.reduceNeg, Int.reducePow, Int.reduceLT, Int.reduceLE, Int.reduceEq, Int.reduceNe, Int.reduceToNat, Int.toNat_natCast, Nat.zero_add, Nat.add_zero, Nat.mul_one, Nat.one_mul, Bool.not_true, Bool.not_false, ne_eq, not_true_eq_false, not_false_eq_true, Bool.false_eq_true, is_a hh A, hf, Option.isSome_none]
  | some o =>
    obtain ⟨t1, t2, t3, t4, t5, t6, t7, t8, t9, t10, t11⟩ := A.at hf
    have g3 := A.good.top
    have hp := row_pos o
    have i1 : a < (s.words.length : Nat) := by omega
    have wr := A.good.wdr a
    obtain ⟨bl, q, q1, q2, q3, q4⟩ := r.lay (lay_get (L := s.lays) t4 t5)
    have hi : ((o.sh.toNat : Nat) : Int) = o.sh := by omega
    rw [hi] at q1
    have sc : ∀ (h : H) K, C 33 [.int .u64 (s.wd a)] h K = K (.int .i64 o.sh) h := fun h K => by rw [shape_c wr.1 wr.2]; unfold shapeOf at t2; rw [t2]
    have lc' : ∀ (h : H) K, C 35 [.int .u64 (s.wd a)] h K = K (.int .i64 o.n) h := fun h K => by rw [len_c wr.1 wr.2]; unfold lenOf at t3; rw [t3]
    by_cases k1 : (decide (kindAt s.lays o.sh = 3)) = c
    · by_cases k2 : 0 ≤ i
      · simp only [sh101, go_sem, reduceIte, Nat.reduceAdd, Nat.reduceSub, Nat.reduceMul, Nat.reducePow, Nat.reduceLT, Nat.reduceLeDiff, Nat.reduceEqDiff, Int.reduceAdd, Int.reduceSub, Int.reduceMul, Int.reduceNeg, Int.reducePow, Int.reduceLT, Int.reduceLE, Int.reduceEq, Int.reduceNe, Int.reduceToNat, Int.toNat_natCast, Nat.zero_add, Nat.add_zero, Nat.mul_one, Nat.one_mul, Bool.not_true, Bool.not_false, ne_eq, not_true_eq_false, not_false_eq_true, Bool.false_eq_true, is_a hh A, hf, Option.isSome_some, cc, t8, i1, hh.word t8 i1, sc, q1, q2, k1, k2, lc', Bool.true_and]
      · simp only [sh101, go_sem, reduceIte, Nat.reduceAdd, Nat.reduceSub, Nat.reduceMul, Nat.reducePow, Nat.reduceLT, Nat.reduceLeDiff, Nat.reduceEqDiff, Int.reduceAdd, Int.reduceSub, Int.reduceMul, Int.reduceNeg, Int.reducePow, Int.reduceLT, Int.reduceLE, Int.reduceEq, Int.reduceNe, Int.reduceToNat, Int.toNat_natCast, Nat.zero_add, Nat.add_zero, Nat.mul_one, Nat.one_mul, Bool.not_true, Bool.not_false, ne_eq, not_true_eq_false, not_false_eq_true, Bool.false_eq_true, is_a hh A, hf, Option.isSome_some, cc, t8, i1, hh.word t8 i1, sc, q1, q2, k1, k2, lc', Bool.true_and, Bool.false_and]
    · simp only [sh101, go_sem, reduceIte, Nat.reduceAdd, Nat.reduceSub, Nat.reduceMul, Nat.reducePow, Nat.reduceLT, Nat.reduceLeDiff, Nat.reduceEqDiff, Int.reduceAdd, Int.reduceSub, Int.reduceMul, Int.reduceNeg, Int.reducePow, Int.reduceLT, Int.reduceLE, Int.reduceEq, Int.reduceNe, Int.reduceToNat, Int.toNat_natCast, Nat.zero_add, Nat.add_zero, Nat.mul_one, Nat.one_mul, Bool.not_true, Bool.not_false, ne_eq, not_true_eq_false, not_false_eq_true, Bool.false_eq_true, is_a hh A, hf, Option.isSome_some, cc, t8, i1, hh.word t8 i1, sc, q1, q2, k1, lc', Bool.false_and]
theorem hasO_some {lays : List (Int × Int)} {a i : Int} {c : Bool} (hq : hasO lays os a i c = true) : ∃ o, findO os a = some o ∧ (decide (kindAt lays o.sh = 3)) = c ∧ 0 ≤ i ∧ i < o.n := by
  unfold hasO at hq
  split at hq
  · rename_i o ho
    simp only [Bool.and_eq_true, decide_eq_true_eq] at hq
    exact ⟨o, ho, hq.1, hq.2.1, hq.2.2⟩
  · cases hq
theorem Abs.body {a : Int} {o : Ob} (A : Abs s os) (hf : findO os a = some o) : (o.body.length : Int) = (if kindAt s.lays o.sh = 3 then (o.n + 7) / 8 else o.n) := by
  obtain ⟨t1, t2, t3, t4, t5, t6, t7, t8, t9, t10, t11⟩ := A.at hf
  have : o.row.length = o.body.length + 1 := by simp [Ob.row]
  rw [this] at t10
  split at t10 <;> rename_i hk
  · rw [if_pos hk]; omega
  · rw [if_neg hk]; omega
theorem get_a (hh : HeapAt h b bw bd B s) (A : Abs s os) {a i : Int} (ha : a < 9223372036854775000) (K : AV → H → Prop) : C 64 [.ptr b 0, .int .i64 a, .int .i64 i] h K =
    K (if hasO s.lays os a i false then .tup [.int .u64 (s.wd (a + 1 + i)), .int .i64 0] else .tup [.int .u64 0, .int .i64 1]) h := by
  refine callA_eq (run64 ?_) K
  obtain ⟨lv, cc, r, _⟩ := hh.cells
  cases hq : hasO s.lays os a i false with
  | false => simp only [sh64, go_sem, reduceIte, Nat.reduceAdd, Nat.reduceSub, Nat.reduceMul, Nat.reducePow, Nat.reduceLT, Nat.reduceLeDiff, Nat.reduceEqDiff, Int.reduceAdd, Int.reduceSub, Int.reduceMul, Int.reduceNeg, Int.reducePow, Int.reduceLT, Int.reduceLE, Int.reduceEq, Int.reduceNe, Int.reduceToNat, Int.toNat_natCast, Nat.zero_add, Nat.add_zero, Nat.mul_one, Nat.one_mul, Bool.not_true, Bool.not_false, ne_eq, not_true_eq_false, not_false_eq_true, Bool.false_eq_true, has_a hh A, hq]
  | true =>
    obtain ⟨o, hf, k1, k2, k3⟩ := hasO_some hq
    obtain ⟨t1, t2, t3, t4, t5, t6, t7, t8, t9, t10, t11⟩ := A.at hf
    have g3 := A.good.top; have g1 := A.good.wlen
    rw [if_neg (by simpa using k1)] at t10
    have e1 : IntKind.i64.wrap (IntKind.i64.wrap (a + 1) + i) = a + 1 + i := by rw [i64_id (n := a + 1) (by omega) (by omega), i64_id (by omega) (by omega)]
    have i0 : 0 ≤ a + 1 + i := by omega
    have i1 : a + 1 + i < (s.words.length : Nat) := by omega
    simp only [sh64, go_sem, reduceIte, Nat.reduceAdd, Nat.reduceSub, Nat.reduceMul, Nat.reducePow, Nat.reduceLT, Nat.reduceLeDiff, Nat.reduceEqDiff, Int.reduceAdd, Int.reduceSub, Int.reduceMul, Int.reduceNeg, Int.reducePow, Int.reduceLT, Int.reduceLE, Int.reduceEq, Int.reduceNe, Int.reduceToNat, Int.toNat_natCast, Nat.zero_add, Nat.add_zero, Nat.mul_one, Nat.one_mul, Bool.not_true, Bool.not_false, ne_eq, not_true_eq_false, not_false_eq_true, Bool.false_eq_true, has_a hh A, hq, cc, e1, i0, i1, hh.word i0 i1]
theorem set_a (hh : HeapAt h b bw bd B s) (A : Abs s os) {a i w : Int} (w0 : 0 ≤ w) (w1 : w < 18446744073709551616) (K : AV → H → Prop) : C 63 [.ptr b 0, .int .i64 a, .int .i64 i, .int .u64 w] h K =
    K (.int .i64 (if hasO s.lays os a i false && fitsO os w then 0 else 1)) (if hasO s.lays os a i false && fitsO os w then h.set bw (.live (wc (s.put (a + 1 + i) w).words) 25 true) else h) := by
  refine callA_eq (run63 ?_) K
  obtain ⟨lv, cc, r, _⟩ := hh.cells
  cases hq : hasO s.lays os a i false with
  | false => simp only [sh63, go_sem, reduceIte, Nat.reduceAdd, Nat.reduceSub, Nat.reduceMul, Nat.reducePow, Nat.reduceLT, Nat.reduceLeDiff, Nat.reduceEqDiff, Int.reduceAdd, Int.reduceSub, Int.reduceMul, Int.reduceNeg, Int.reducePow, Int.reduceLT, Int.reduceLE, Int.reduceEq, Int.reduceNe, Int.reduceToNat, Int.toNat_natCast, Nat.zero_add, Nat.add_zero, Nat.mul_one, Nat.one_mul, Bool.not_true, Bool.not_false, ne_eq, not_true_eq_false, not_false_eq_true, Bool.false_eq_true, has_a hh A, hq, Bool.false_and]
  | true =>
    cases hw : fitsO os w with
    | false => simp only [sh63, go_sem, reduceIte, Nat.reduceAdd, Nat.reduceSub, Nat.reduceMul, Nat.reducePow, Nat.reduceLT, Nat.reduceLeDiff, Nat.reduceEqDiff, Int.reduceAdd, Int.reduceSub, Int.reduceMul, Int.reduceNeg, Int.reducePow, Int.reduceLT, Int.reduceLE, Int.reduceEq, Int.reduceNe, Int.reduceToNat, Int.toNat_natCast, Nat.zero_add, Nat.add_zero, Nat.mul_one, Nat.one_mul, Bool.not_true, Bool.not_false, ne_eq, not_true_eq_false, not_false_eq_true, Bool.false_eq_true, has_a hh A, hq, fits_a hh A w0 w1, hw, Bool.true_and]
    | true =>
      obtain ⟨o, hf, k1, k2, k3⟩ := hasO_some hq
      obtain ⟨t1, t2, t3, t4, t5, t6, t7, t8, t9, t10, t11⟩ := A.at hf
      have g3 := A.good.top; have g1 := A.good.wlen
      rw [if_neg (by simpa using k1)] at t10
      have e1 : IntKind.i64.wrap (IntKind.i64.wrap (a + 1) + i) = a + 1 + i := by rw [i64_id (n := a + 1) (by omega) (by omega), i64_id (by omega) (by omega)]
      have i0 : 0 ≤ a + 1 + i := by omega
      have i1 : a + 1 + i < (s.words.length : Nat) := by omega
      simp only [sh63, go_sem, reduceIte, Nat.reduceAdd, Nat.reduceSub, Nat.reduceMul, Nat.reducePow, Nat.reduceLT, Nat.reduceLeDiff, Nat.reduceEqDiff, Int.reduceAdd, Int.reduceSub, Int.reduceMul, Int.reduceNeg, Int.reducePow, Int.reduceLT, Int.reduceLE, Int.reduceEq, Int.reduceNe, Int.reduceToNat, Int.toNat_natCast, Nat.zero_add, Nat.add_zero, Nat.mul_one, Nat.one_mul, Bool.not_true, Bool.not_false, ne_eq, not_true_eq_false, not_false_eq_true, Bool.false_eq_true, has_a hh A, hq, fits_a hh A w0 w1, hw, Bool.true_and, cc, e1, i0, i1, hh.st_word i0 i1]
end
end Go.Proofs.Ytljkkfcokpimkaa.X
set_option linter.unusedVariables false
set_option linter.unusedSimpArgs false
set_option maxRecDepth 20000
namespace Go.Proofs.Ytljkkfcokpimkaa.X
open Go Go.RowKit
section
variable {h : H}
theorem alloc_ok {b bw bd : Nat} {B : List Nat} {s : Hs} {os : List Ob} (hh : HeapAt h b bw bd B s) (A : Abs s os) {i n : Int} (he : (needN s.lays i n).2 = 0) (hk : (needN s.lays i n).1 ≤ (s.words.length : Int) - s.top) {t : Int} (ht : (s.top : Int) = t) {K : AV → H → Prop}
    (hG : ∀ h', Fr [b, bw, bd] h h' → HeapAt h' b bw bd B (s.alloc i n (needN s.lays i n).1) → Abs (s.alloc i n (needN s.lays i n).1) (os ++ [newOb s.lays i n]) → K (.tup [.int .i64 t, .int .i64 0]) h') : C 55 [.ptr b 0, .int .i64 i, .int .i64 n] h K :=
  alloc_c hh A.good i n (fun q => absurd he q) (fun _ q => by omega) fun _ _ h' f q => by rw [ht]; exact hG h' f q (abs_alloc A he hk)
theorem Fr.cons {S : List Nat} {h0 h1 h2 : H} {P : List Nat} (f : Fr S h0 h1) (hP : ∀ c ∈ P, h0.get c = none) (f2 : Fr P h1 h2) : Fr S h0 h2 := fun c o hc hg => by
  refine f2 c o (fun q => ?_) (f c o hc hg)
  rw [hP c q] at hg; cases hg
end
end Go.Proofs.Ytljkkfcokpimkaa.X
set_option linter.unusedVariables false
set_option linter.unusedSimpArgs false
set_option maxRecDepth 20000
namespace Go.Proofs.Ytljkkfcokpimkaa.X
open Go Go.RowKit
section
variable {h : H}
theorem newErr_range {words : Int} {L : List (Int × Int)} (e : newErr words L = 0) : 0 ≤ words ∧ words ≤ 65536 ∧ L.length ≤ 512 ∧ L.any badLay = false := by
  unfold newErr at e
  by_cases h1 : words < 0 ∨ 65536 < words
  · rw [if_pos h1] at e; cases e
  · rw [if_neg h1] at e
    by_cases h2 : 512 < L.length
    · rw [if_pos h2] at e; cases e
    · rw [if_neg h2] at e
      cases h3 : L.any badLay
      · exact ⟨by omega, by omega, by omega, rfl⟩
      · rw [h3] at e; cases e
theorem Row.one {v : AV} {n esz : Nat} {cs : List AV} (r : Row h v n esz cs) : v.leaf = true ∧ v.cells = [v] := by
  rcases r.2 with ⟨_, rfl⟩ | ⟨_, _, _, rfl, _⟩ <;> exact ⟨rfl, rfl⟩
theorem rneed_c {bx : Nat} {lays : List (Int × Int)} {lv : AV} (hc : h.cell bx 1 = some lv) (r : Row h lv lays.length 2 (lc lays)) (i n : Int) (K : AV → H → Prop) : C 53 [.ptr bx 0, .int .i64 i, .int .i64 n] h K = K (.tup [.int .i64 (needN lays i n).1, .int .i64 (needN lays i n).2]) h := by
  refine callA_eq (run53 ?_) K
  by_cases h0 : i < 0
  · have e : needN lays i n = (0, 1) := by unfold needN; rw [if_pos (.inl h0)]
    simp only [sh53, go_sem, reduceIte, Nat.reduceAdd, Nat.reduceSub, Nat.reduceMul, Nat.reducePow, Nat.reduceLT, Nat.reduceLeDiff, Nat.reduceEqDiff, Int.reduceAdd, Int.reduceSub, Int.reduceMul, Int.reduceNeg, Int.reducePow, Int.reduceLT, Int.reduceLE, Int.reduceEq, Int.reduceNe, Int.reduceToNat, Int.toNat_natCast, Nat.zero_add, Nat.add_zero, Nat.mul_one, Nat.one_mul, Bool.not_true, Bool.not_false, ne_eq, not_true_eq_false, not_false_eq_true, Bool.false_eq_true, h0, e]
  by_cases h1 : (lays.length : Int) ≤ i
  · have e : needN lays i n = (0, 1) := by unfold needN; rw [if_pos (.inr (.inl h1))]
    simp only [sh53, go_sem, reduceIte, Nat.reduceAdd, Nat.reduceSub, Nat.reduceMul, Nat.reducePow, Nat.reduceLT, Nat.reduceLeDiff, Nat.reduceEqDiff, Int.reduceAdd, Int.reduceSub, Int.reduceMul, Int.reduceNeg, Int.reducePow, Int.reduceLT, Int.reduceLE, Int.reduceEq, Int.reduceNe, Int.reduceToNat, Int.toNat_natCast, Nat.zero_add, Nat.add_zero, Nat.mul_one, Nat.one_mul, Bool.not_true, Bool.not_false, ne_eq, not_true_eq_false, not_false_eq_true, Bool.false_eq_true, hc, h0, h1, r.len, e]
  by_cases h2 : n < 0
  · have e : needN lays i n = (0, 1) := by unfold needN; rw [if_pos (.inr (.inr h2))]
    simp only [sh53, go_sem, reduceIte, Nat.reduceAdd, Nat.reduceSub, Nat.reduceMul, Nat.reducePow, Nat.reduceLT, Nat.reduceLeDiff, Nat.reduceEqDiff, Int.reduceAdd, Int.reduceSub, Int.reduceMul, Int.reduceNeg, Int.reducePow, Int.reduceLT, Int.reduceLE, Int.reduceEq, Int.reduceNe, Int.reduceToNat, Int.toNat_natCast, Nat.zero_add, Nat.add_zero, Nat.mul_one, Nat.one_mul, Bool.not_true, Bool.not_false, ne_eq, not_true_eq_false, not_false_eq_true, Bool.false_eq_true, hc, h0, h1, h2, r.len, e]
  have e0 : needN lays i n = if kindAt lays i = 1 ∧ n ≠ nAt lays i then (0, 1) else if 65536 < n then (0, 2) else if kindAt lays i = 3 then (1 + (n + 7) / 8, 0) else (1 + n, 0) := by
    unfold needN; rw [if_neg (by omega)]
  have hi : ((i.toNat : Nat) : Int) = i := by omega
  obtain ⟨bl, o, q1, q2, q3, q4⟩ := r.lay (lay_get (L := lays) (i := i) (by omega) (by omega))
  rw [hi] at q1
  rw [e0]
  generalize kindAt lays i = k at *
  generalize nAt lays i = m at *
  have e2 : IntKind.i64.wrap (1 + n) = 1 + n ∨ 65536 < n := by
    by_cases q : 65536 < n
    · exact .inr q
    · exact .inl (i64_id (by omega) (by omega))
  by_cases k1 : k = 1
  · subst k1
    by_cases k2 : m = n
    · subst k2
      have z : ¬ ((1 : Int) = 1 ∧ m ≠ m) := by simp
      by_cases k3 : 65536 < m
      · simp only [sh53, go_sem, reduceIte, Nat.reduceAdd, Nat.reduceSub, Nat.reduceMul, Nat.reducePow, Nat.reduceLT, Nat.reduceLeDiff, Nat.reduceEqDiff, Int.reduceAdd, Int.reduceSub, Int.reduceMul, Int.reduceNeg, Int.reducePow, Int.reduceLT, Int.reduceLE, Int.reduceEq, Int.reduceNe, Int.reduceToNat, Int.toNat_natCast, Nat.zero_add, Nat.add_zero, Nat.mul_one, Nat.one_mul, Bool.not_true, Bool.not_false, ne_eq, not_true_eq_false, not_false_eq_true, Bool.false_eq_true, hc, h0, h1, h2, r.len, q1, q2, q3, k3, and_false]
      · rcases e2 with e2 | e2
        · simp only [sh53, go_sem, reduceIte, Nat.reduceAdd, Nat.reduceSub, Nat.reduceMul, Nat.reducePow, Nat.reduceLT, Nat.reduceLeDiff, Nat.reduceEqDiff, Int.reduceAdd, Int.reduceSub, Int.reduceMul, Int.reduceNeg, Int.reducePow, Int.reduceLT, Int.reduceLE, Int.reduceEq, Int.reduceNe, Int.reduceToNat, Int.toNat_natCast, Nat.zero_add, Nat.add_zero, Nat.mul_one, Nat.one_mul, Bool.not_true, Bool.not_false, ne_eq, not_true_eq_false, not_false_eq_true, Bool.false_eq_true, joinA, hc, h0, h1, h2, r.len, q1, q2, q3, k3, e2, and_false]
        · exact absurd e2 k3
    · have k2' : ¬ n = m := fun q => k2 q.symm
      simp only [sh53, go_sem, reduceIte, Nat.reduceAdd, Nat.reduceSub, Nat.reduceMul, Nat.reducePow, Nat.reduceLT, Nat.reduceLeDiff, Nat.reduceEqDiff, Int.reduceAdd, Int.reduceSub, Int.reduceMul, Int.reduceNeg, Int.reducePow, Int.reduceLT, Int.reduceLE, Int.reduceEq, Int.reduceNe, Int.reduceToNat, Int.toNat_natCast, Nat.zero_add, Nat.add_zero, Nat.mul_one, Nat.one_mul, Bool.not_true, Bool.not_false, ne_eq, not_true_eq_false, not_false_eq_true, Bool.false_eq_true, hc, h0, h1, h2, r.len, q1, q2, q3, k2, k2', and_self]
  · by_cases k3 : 65536 < n
    · simp only [sh53, go_sem, reduceIte, Nat.reduceAdd, Nat.reduceSub, Nat.reduceMul, Nat.reducePow, Nat.reduceLT, Nat.reduceLeDiff, Nat.reduceEqDiff, Int.reduceAdd, Int.reduceSub, Int.reduceMul, Int.reduceNeg, Int.reducePow, Int.reduceLT, Int.reduceLE, Int.reduceEq, Int.reduceNe, Int.reduceToNat, Int.toNat_natCast, Nat.zero_add, Nat.add_zero, Nat.mul_one, Nat.one_mul, Bool.not_true, Bool.not_false, ne_eq, not_true_eq_false, not_false_eq_true, Bool.false_eq_true, hc, h0, h1, h2, r.len, q1, q2, q3, k1, k3, false_and]
    · by_cases k4 : k = 3
      · subst k4
        simp only [sh53, go_sem, reduceIte, Nat.reduceAdd, Nat.reduceSub, Nat.reduceMul, Nat.reducePow, Nat.reduceLT, Nat.reduceLeDiff, Nat.reduceEqDiff, Int.reduceAdd, Int.reduceSub, Int.reduceMul, Int.reduceNeg, Int.reducePow, Int.reduceLT, Int.reduceLE, Int.reduceEq, Int.reduceNe, Int.reduceToNat, Int.toNat_natCast, Nat.zero_add, Nat.add_zero, Nat.mul_one, Nat.one_mul, Bool.not_true, Bool.not_false, ne_eq, not_true_eq_false, not_false_eq_true, Bool.false_eq_true, joinA, hc, h0, h1, h2, r.len, q1, q2, q3, k3, false_and]
        refine loop_r (n + 8).toNat (fun c l h' => ∃ j : Int, 0 ≤ j ∧ j % 8 = 0 ∧ j < n + 8 ∧ l = [.int .i64 (1 + j / 8), .int .i64 j] ∧ h' = h ∧ c = (n + 8 - j).toNat) ⟨0, by omega, by omega, by omega, rfl, rfl, by omega⟩ ?_
        rintro c l h' ⟨j, j0, j8, jn, rfl, rfl, rfl⟩
        by_cases hlt : j < n
        · have x1 : IntKind.i64.wrap (1 + j / 8 + 1) = 1 + (j + 8) / 8 := by rw [i64_id (by omega) (by omega)]; omega
          have x2 : IntKind.i64.wrap (j + 8) = j + 8 := i64_id (by omega) (by omega)
          simp only [go_sem, reduceIte, Nat.reduceAdd, Nat.reduceSub, Nat.reduceMul, Nat.reducePow, Nat.reduceLT, Nat.reduceLeDiff, Nat.reduceEqDiff, Int.reduceAdd, Int.reduceSub, Int.reduceMul, Int.reduceNeg, Int.reducePow, Int.reduceLT, Int.reduceLE, Int.reduceEq, Int.reduceNe, Int.reduceToNat, Int.toNat_natCast, Nat.zero_add, Nat.add_zero, Nat.mul_one, Nat.one_mul, Bool.not_true, Bool.not_false, ne_eq, not_true_eq_false, not_false_eq_true, Bool.false_eq_true, hlt, x1, x2]
          exact ⟨_, by omega, j + 8, by omega, by omega, by omega, rfl, rfl⟩
        · have x3 : 1 + j / 8 = 1 + (n + 7) / 8 := by omega
          simp only [go_sem, reduceIte, Nat.reduceAdd, Nat.reduceSub, Nat.reduceMul, Nat.reducePow, Nat.reduceLT, Nat.reduceLeDiff, Nat.reduceEqDiff, Int.reduceAdd, Int.reduceSub, Int.reduceMul, Int.reduceNeg, Int.reducePow, Int.reduceLT, Int.reduceLE, Int.reduceEq, Int.reduceNe, Int.reduceToNat, Int.toNat_natCast, Nat.zero_add, Nat.add_zero, Nat.mul_one, Nat.one_mul, Bool.not_true, Bool.not_false, ne_eq, not_true_eq_false, not_false_eq_true, Bool.false_eq_true, hlt, x3]
      · rcases e2 with e2 | e2
        · simp only [sh53, go_sem, reduceIte, Nat.reduceAdd, Nat.reduceSub, Nat.reduceMul, Nat.reducePow, Nat.reduceLT, Nat.reduceLeDiff, Nat.reduceEqDiff, Int.reduceAdd, Int.reduceSub, Int.reduceMul, Int.reduceNeg, Int.reducePow, Int.reduceLT, Int.reduceLE, Int.reduceEq, Int.reduceNe, Int.reduceToNat, Int.toNat_natCast, Nat.zero_add, Nat.add_zero, Nat.mul_one, Nat.one_mul, Bool.not_true, Bool.not_false, ne_eq, not_true_eq_false, not_false_eq_true, Bool.false_eq_true, joinA, hc, h0, h1, h2, r.len, q1, q2, q3, k1, k3, k4, e2, false_and]
        · exact absurd e2 k3
end
end Go.Proofs.Ytljkkfcokpimkaa.X
set_option linter.unusedVariables false
set_option linter.unusedSimpArgs false
set_option maxRecDepth 20000
namespace Go.Proofs.Ytljkkfcokpimkaa.X
open Go Go.RowKit
def SlV (h : H) (ty esz : Nat) (v : AV) (B : List Nat) (n : Nat) (cs : List AV) : Prop :=
  cs.length = n * esz ∧ ((n = 0 ∧ v = .nilsl ∧ B = []) ∨ ∃ b, v = .sl b 0 n (.more esz) ∧ B = [b] ∧ h.get b = some (.live cs ty true))
theorem SlV.row {h : H} {ty esz : Nat} {v : AV} {B : List Nat} {n : Nat} {cs : List AV} (o : SlV h ty esz v B n cs) : Row h v n esz cs := by
  obtain ⟨hl, o⟩ := o
  refine ⟨hl, ?_⟩
  rcases o with ⟨q, q', _⟩ | ⟨b, rfl, _, hb⟩
  · exact .inl ⟨q, q'⟩
  · exact .inr ⟨b, 0, _, rfl, by simp [Cap.fits], H.read_eq hb (by omega) (by rw [List.drop_zero, List.take_of_length_le (by omega)])⟩
theorem SlV.fr {h h' : H} {S : List Nat} {ty esz : Nat} {v : AV} {B : List Nat} {n : Nat} {cs : List AV} (o : SlV h ty esz v B n cs) (f : Fr S h h') (hs : ∀ c ∈ B, c ∉ S) : SlV h' ty esz v B n cs := by
  refine ⟨o.1, ?_⟩
  rcases o.2 with q | ⟨b, q1, q2, q3⟩
  · exact .inl q
  · exact .inr ⟨b, q1, q2, f b _ (hs b (by simp [q2])) q3⟩
theorem SlV.one {h : H} {ty esz : Nat} {v : AV} {B : List Nat} {n : Nat} {cs : List AV} (o : SlV h ty esz v B n cs) : v.leaf = true ∧ v.cells = [v] := o.row.one
def SlW (h : H) (ty esz : Nat) (v : AV) (B : List Nat) (n : Nat) (cs : List AV) : Prop :=
  cs.length = n * esz ∧ ((n = 0 ∧ v = .nilsl ∧ B = []) ∨ ∃ b c, v = .sl b 0 n c ∧ c.fits esz = true ∧ B = [b] ∧ h.get b = some (.live cs ty true))
theorem SlW.row {h : H} {ty esz : Nat} {v : AV} {B : List Nat} {n : Nat} {cs : List AV} (o : SlW h ty esz v B n cs) : Row h v n esz cs := by
  obtain ⟨hl, o⟩ := o
  refine ⟨hl, ?_⟩
  rcases o with ⟨q, q', _⟩ | ⟨b, c, rfl, hc, _, hb⟩
  · exact .inl ⟨q, q'⟩
  · exact .inr ⟨b, 0, _, rfl, hc, H.read_eq hb (by omega) (by rw [List.drop_zero, List.take_of_length_le (by omega)])⟩
theorem SlW.fr {h h' : H} {S : List Nat} {ty esz : Nat} {v : AV} {B : List Nat} {n : Nat} {cs : List AV} (o : SlW h ty esz v B n cs) (f : Fr S h h') (hs : ∀ c ∈ B, c ∉ S) : SlW h' ty esz v B n cs := by
  refine ⟨o.1, ?_⟩
  rcases o.2 with q | ⟨b, c, q1, q0, q2, q3⟩
  · exact .inl q
  · exact .inr ⟨b, c, q1, q0, q2, f b _ (hs b (by simp [q2])) q3⟩
theorem SlW.one {h : H} {ty esz : Nat} {v : AV} {B : List Nat} {n : Nat} {cs : List AV} (o : SlW h ty esz v B n cs) : v.leaf = true ∧ v.cells = [v] := o.row.one
theorem SlV.w {h : H} {ty esz : Nat} {v : AV} {B : List Nat} {n : Nat} {cs : List AV} (o : SlV h ty esz v B n cs) : SlW h ty esz v B n cs := by
  refine ⟨o.1, ?_⟩
  rcases o.2 with q | ⟨b, q1, q2, q3⟩
  · exact .inl q
  · exact .inr ⟨b, _, q1, by simp [Cap.fits], q2, q3⟩
structure RO where
  a : Int
  sh : Int
  n : Int
  fs : List Int
  bs : List Nat
structure RV where
  r : RO
  fv : AV
  bv : AV
  Bf : List Nat
  Bb : List Nat
def RV.cells (x : RV) : List AV := [.int .i64 x.r.a, .int .i64 x.r.sh, .int .i64 x.r.n, x.fv, x.bv]
def cellsR (l : List RV) : List AV := l.flatMap RV.cells
def RV.ok (h : H) (x : RV) : Prop := SlW h 25 1 x.fv x.Bf x.r.fs.length (wc x.r.fs) ∧ SlW h 5 1 x.bv x.Bb x.r.bs.length (bc x.r.bs)
def RV.blocks (x : RV) : List Nat := x.Bf ++ x.Bb
def blocksR (bx : Nat) (BL : List Nat) (l : List RV) : List Nat := bx :: (BL ++ l.flatMap RV.blocks)
structure RefAt (h0 h : H) (bx : Nat) (words : Int) (lays : List (Int × Int)) (BL : List Nat) (l : List RV) : Prop where
  fr : Fr [] h0 h
  st : ∃ lv Lv, h.get bx = some (.live [.int .i64 words, lv, Lv] 56 true) ∧ Row h0 lv lays.length 2 (lc lays) ∧ SlV h 89 5 Lv BL l.length (cellsR l)
  el : ∀ x ∈ l, x.ok h
  nd : (blocksR bx BL l).Nodup
  new : ∀ c ∈ blocksR bx BL l, h0.get c = none
theorem cellsR_length (l : List RV) : (cellsR l).length = l.length * 5 := by
  induction l with
  | nil => rfl
  | cons x l ih => simp only [cellsR, List.flatMap_cons] at ih ⊢; simp [RV.cells, ih]; omega
theorem cellsR_get : ∀ (l : List RV) (i : Nat) (x : RV), l[i]? = some x → ∀ j, j < 5 → (cellsR l)[i * 5 + j]? = x.cells[j]?
  | [], i, x, h => by simp at h
  | y :: l, 0, x, h => by
    simp at h; subst h
    intro j hj
    have : cellsR (y :: l) = y.cells ++ cellsR l := by simp [cellsR]
    rw [this, Nat.zero_mul, Nat.zero_add, List.getElem?_append_left (by simpa [RV.cells] using hj)]
  | y :: l, i + 1, x, h => by
    intro j hj
    have ih := cellsR_get l i x (by simpa using h) j hj
    have : cellsR (y :: l) = y.cells ++ cellsR l := by simp [cellsR]
    rw [this, List.getElem?_append_right (by simp [RV.cells]; omega)]
    rw [← ih]; congr 1; simp [RV.cells]; omega
theorem cellsR_drop (l : List RV) (i : Nat) (x : RV) (h : l[i]? = some x) : ((cellsR l).drop (i * 5)).take 5 = x.cells := by
  apply List.ext_getElem?
  intro j
  rw [List.getElem?_take, List.getElem?_drop]
  by_cases hj : j < 5
  · rw [if_pos hj]; exact cellsR_get l i x h j hj
  · rw [if_neg hj, List.getElem?_eq_none (by simp [RV.cells]; omega)]
section
variable {h0 h : H} {bx : Nat} {words : Int} {lays : List (Int × Int)} {BL : List Nat} {l : List RV}
theorem RefAt.cells (R : RefAt h0 h bx words lays BL l) : ∃ lv Lv, (∀ off, h.cell bx off = [AV.int .i64 words, lv, Lv][off]?) ∧ Row h lv lays.length 2 (lc lays) ∧ SlV h 89 5 Lv BL l.length (cellsR l) := by
  obtain ⟨lv, Lv, g1, g2, g3⟩ := R.st
  exact ⟨lv, Lv, fun off => cell_of g1 off, g2.fr R.fr, g3⟩
theorem RefAt.keep (R : RefAt h0 h bx words lays BL l) {h' : H} {S : List Nat} (f : Fr S h h') (hs : ∀ c ∈ blocksR bx BL l, c ∉ S) (f0 : Fr [] h0 h') : RefAt h0 h' bx words lays BL l := by
  obtain ⟨lv, Lv, g1, g2, g3⟩ := R.st
  refine ⟨f0, ⟨lv, Lv, f bx _ (hs bx (by simp [blocksR])) g1, g2, g3.fr f fun c hc => hs c (by simp [blocksR, hc])⟩, fun x hx => ?_, R.nd, R.new⟩
  have hb : ∀ c ∈ x.blocks, c ∈ blocksR bx BL l := fun c hc => by
    simp only [blocksR, List.mem_cons, List.mem_append, List.mem_flatMap]
    exact .inr (.inr ⟨x, hx, hc⟩)
  exact ⟨(R.el x hx).1.fr f fun c hc => hs c (hb c (by simp [RV.blocks, hc])), (R.el x hx).2.fr f fun c hc => hs c (hb c (by simp [RV.blocks, hc]))⟩
theorem RefAt.keep0 (R : RefAt h0 h bx words lays BL l) {h' : H} (f : Fr [] h h') : RefAt h0 h' bx words lays BL l := R.keep f (by simp) (R.fr.trans f)
theorem SlV.obj {Lv : AV} (o : SlV h 89 5 Lv BL l.length (cellsR l)) {i : Nat} {x : RV} (hx : l[i]? = some x) :
    ∃ b q, (∀ k, iaA 5 Lv (.int k i) = some (.ptr b q)) ∧ (∀ j, j < 5 → h.cell b (q + j) = x.cells[j]?) ∧ h.read b q 5 = some x.cells := by
  have hl : i < l.length := (List.getElem?_eq_some_iff.1 hx).1
  obtain ⟨b, q, q1, q2, q3⟩ := o.row.el (i := i) (by omega) (by omega)
  rw [Int.toNat_natCast] at q2 q3
  exact ⟨b, q, q1, fun j hj => by rw [q2 j hj, cellsR_get l i x hx j hj], by rw [q3, cellsR_drop l i x hx]⟩
theorem RV.leaves {x : RV} (hx : x.ok h) : leaves x.cells = true := by
  have a := hx.1.one.1; have b := hx.2.one.1
  simp only [RV.cells, Go.Proofs.Ytljkkfcokpimkaa.X.leaves, a, b]
  rfl
theorem agg5_write {b e : Nat} {x1 x2 x3 x4 x5 : AV} {x : RV} (hv : Go.Proofs.Ytljkkfcokpimkaa.X.leaves x.cells = true) : (h.set b (.live [x1, x2, x3, x4, x5] e true)).write b 0 x.cells = some (h.set b (.live x.cells e true)) := write_new rfl hv
def topR (lays : List (Int × Int)) (l : List RV) : Int := (l.map fun x => (needN lays x.r.sh x.r.n).1).sum
def findR : List RV → Int → Nat → Int
  | [], _, _ => -1
  | x :: l, a, i => if x.r.a = a then i else findR l a (i + 1)
theorem need_le (lays : List (Int × Int)) (i n : Int) : 0 ≤ (needN lays i n).1 ∧ (needN lays i n).1 ≤ 65537 := by
  unfold needN
  split
  · simp
  · split
    · simp
    · split
      · simp
      · split <;> simp only <;> omega
theorem topR_range (lays : List (Int × Int)) (l : List RV) : 0 ≤ topR lays l ∧ topR lays l ≤ 65537 * l.length := by
  induction l with
  | nil => simp [topR]
  | cons x l ih =>
    have := need_le lays x.r.sh x.r.n
    simp only [topR, List.map_cons, List.sum_cons, List.length_cons] at ih ⊢
    omega
theorem rtop_c (R : RefAt h0 h bx words lays BL l) (hl : l.length ≤ 1000) {K : AV → H → Prop} (hK : ∀ h', Fr [] h h' → K (.int .i64 (topR lays l)) h') : C 75 [.ptr bx 0] h K := by
  refine run75 ?_
  obtain ⟨lv, Lv, c, r, o⟩ := R.cells
  simp only [sh75, joinA, go_sem, reduceIte, Nat.reduceAdd, Nat.reduceSub, Nat.reduceMul, Nat.reducePow, Nat.reduceLT, Nat.reduceLeDiff, Nat.reduceEqDiff, Int.reduceAdd, Int.reduceSub, Int.reduceMul, Int.reduceNeg, Int.reducePow, Int.reduceLT, Int.reduceLE, Int.reduceEq, Int.reduceNe, Int.reduceToNat, Int.toNat_natCast, Nat.zero_add, Nat.add_zero, Nat.mul_one, Nat.one_mul, Bool.not_true, Bool.not_false, ne_eq, not_true_eq_false, not_false_eq_true, Bool.false_eq_true, c, o.row.len]
  refine loop_r l.length (fun k ls h' => ∃ i : Nat, ls = [.int .i64 (topR lays (l.take i)), .int .i64 i] ∧ i ≤ l.length ∧ Fr [] h h' ∧ k = l.length - i) ⟨0, by simp [topR], by omega, Fr.refl _ _, rfl⟩ ?_
  rintro k ls h' ⟨i, rfl, hi, f, rfl⟩
  by_cases hlt : (i : Int) < l.length
  · have hlt' : i < l.length := by omega
    obtain ⟨x, hx⟩ : ∃ x, l[i]? = some x := ⟨l[i], by simp [hlt']⟩
    have hok := R.el x (List.mem_of_getElem? hx)
    obtain ⟨b, q, q1, q2, q3⟩ := (o.fr f (by simp)).obj hx
    have R' := R.keep0 f
    obtain ⟨lv', Lv', c', r', o'⟩ := R'.cells
    simp only [go_sem, reduceIte, Nat.reduceAdd, Nat.reduceSub, Nat.reduceMul, Nat.reducePow, Nat.reduceLT, Nat.reduceLeDiff, Nat.reduceEqDiff, Int.reduceAdd, Int.reduceSub, Int.reduceMul, Int.reduceNeg, Int.reducePow, Int.reduceLT, Int.reduceLE, Int.reduceEq, Int.reduceNe, Int.reduceToNat, Int.toNat_natCast, Nat.zero_add, Nat.add_zero, Nat.mul_one, Nat.one_mul, Bool.not_true, Bool.not_false, ne_eq, not_true_eq_false, not_false_eq_true, Bool.false_eq_true, hlt, q1, q3]
    refine ⟨rfl, fun d hd => ?_⟩
    have f2 : Fr [] h (h'.set d (.live x.cells 89 true)) := f.set' (f.free hd)
    have R2 := R.keep0 f2
    obtain ⟨lv2, Lv2, c2, r2, o2⟩ := R2.cells
    have hw := RV.leaves hok
    have ec : (AV.agg x.cells).cells = x.cells := rfl
    have el : x.cells.length = 5 := rfl
    have hc1 : (h'.set d (.live x.cells 89 true)).cell d 1 = some (.int .i64 x.r.sh) := cell_set
    have hc2 : (h'.set d (.live x.cells 89 true)).cell d 2 = some (.int .i64 x.r.n) := cell_set
    have n53 := fun K => rneed_c (h := h'.set d (.live x.cells 89 true)) (bx := bx) (by rw [c2]; rfl) r2 x.r.sh x.r.n K
    have t := topR_range lays (l.take i)
    have t2 := need_le lays x.r.sh x.r.n
    rw [List.length_take] at t
    have e1 : IntKind.i64.wrap (topR lays (l.take i) + (needN lays x.r.sh x.r.n).1) = topR lays (l.take (i + 1)) := by
      rw [i64_id (by omega) (by omega), List.take_add_one, hx]
      simp [topR]
    have e2 : IntKind.i64.wrap ((i : Int) + 1) = ((i + 1 : Nat) : Int) := by rw [i64_id (by omega) (by omega)]; rfl
    simp only [go_sem, reduceIte, Nat.reduceAdd, Nat.reduceSub, Nat.reduceMul, Nat.reducePow, Nat.reduceLT, Nat.reduceLeDiff, Nat.reduceEqDiff, Int.reduceAdd, Int.reduceSub, Int.reduceMul, Int.reduceNeg, Int.reducePow, Int.reduceLT, Int.reduceLE, Int.reduceEq, Int.reduceNe, Int.reduceToNat, Int.toNat_natCast, Nat.zero_add, Nat.add_zero, Nat.mul_one, Nat.one_mul, Bool.not_true, Bool.not_false, ne_eq, not_true_eq_false, not_false_eq_true, Bool.false_eq_true, stA_p, ec, el, agg5_write hw, hc1, hc2, n53, e1, e2]
    exact ⟨l.length - (i + 1), by omega, i + 1, rfl, by omega, f2, rfl⟩
  · simp only [go_sem, reduceIte, Nat.reduceAdd, Nat.reduceSub, Nat.reduceMul, Nat.reducePow, Nat.reduceLT, Nat.reduceLeDiff, Nat.reduceEqDiff, Int.reduceAdd, Int.reduceSub, Int.reduceMul, Int.reduceNeg, Int.reducePow, Int.reduceLT, Int.reduceLE, Int.reduceEq, Int.reduceNe, Int.reduceToNat, Int.toNat_natCast, Nat.zero_add, Nat.add_zero, Nat.mul_one, Nat.one_mul, Bool.not_true, Bool.not_false, ne_eq, not_true_eq_false, not_false_eq_true, Bool.false_eq_true, hlt]
    have : i = l.length := by omega
    subst this
    rw [List.take_length]
    exact hK h' f
theorem rfind_c (R : RefAt h0 h bx words lays BL l) (hl : l.length ≤ 1000) (a : Int) {K : AV → H → Prop} (hK : ∀ h', Fr [] h h' → K (.int .i64 (findR l a 0)) h') : C 67 [.ptr bx 0, .int .i64 a] h K := by
  refine run67 ?_
  obtain ⟨lv, Lv, c, r, o⟩ := R.cells
  simp only [sh67, joinA, go_sem, reduceIte, Nat.reduceAdd, Nat.reduceSub, Nat.reduceMul, Nat.reducePow, Nat.reduceLT, Nat.reduceLeDiff, Nat.reduceEqDiff, Int.reduceAdd, Int.reduceSub, Int.reduceMul, Int.reduceNeg, Int.reducePow, Int.reduceLT, Int.reduceLE, Int.reduceEq, Int.reduceNe, Int.reduceToNat, Int.toNat_natCast, Nat.zero_add, Nat.add_zero, Nat.mul_one, Nat.one_mul, Bool.not_true, Bool.not_false, ne_eq, not_true_eq_false, not_false_eq_true, Bool.false_eq_true, c, o.row.len]
  refine loop_r l.length (fun k ls h' => ∃ i : Nat, ls = [.int .i64 i] ∧ i ≤ l.length ∧ Fr [] h h' ∧ findR l a 0 = findR (l.drop i) a i ∧ k = l.length - i) ⟨0, rfl, by omega, Fr.refl _ _, rfl, rfl⟩ ?_
  rintro k ls h' ⟨i, rfl, hi, f, hfi, rfl⟩
  by_cases hlt : (i : Int) < l.length
  · have hlt' : i < l.length := by omega
    obtain ⟨x, hx⟩ : ∃ x, l[i]? = some x := ⟨l[i], by simp [hlt']⟩
    have hdrop : l.drop i = x :: l.drop (i + 1) := by
      rw [List.drop_eq_getElem_cons hlt']; congr 1
      rw [List.getElem?_eq_getElem hlt'] at hx; injection hx
    have hok := R.el x (List.mem_of_getElem? hx)
    obtain ⟨b, q, q1, q2, q3⟩ := (o.fr f (by simp)).obj hx
    simp only [go_sem, reduceIte, Nat.reduceAdd, Nat.reduceSub, Nat.reduceMul, Nat.reducePow, Nat.reduceLT, Nat.reduceLeDiff, Nat.reduceEqDiff, Int.reduceAdd, Int.reduceSub, Int.reduceMul, Int.reduceNeg, Int.reducePow, Int.reduceLT, Int.reduceLE, Int.reduceEq, Int.reduceNe, Int.reduceToNat, Int.toNat_natCast, Nat.zero_add, Nat.add_zero, Nat.mul_one, Nat.one_mul, Bool.not_true, Bool.not_false, ne_eq, not_true_eq_false, not_false_eq_true, Bool.false_eq_true, hlt, q1, q3]
    refine ⟨rfl, fun d hd => ?_⟩
    have f2 : Fr [] h (h'.set d (.live x.cells 89 true)) := f.set' (f.free hd)
    have hw := RV.leaves hok
    have ec : (AV.agg x.cells).cells = x.cells := rfl
    have el : x.cells.length = 5 := rfl
    have hcell : (h'.set d (.live x.cells 89 true)).cell d 0 = some (.int .i64 x.r.a) := cell_set
    have e2 : IntKind.i64.wrap ((i : Int) + 1) = ((i + 1 : Nat) : Int) := by rw [i64_id (by omega) (by omega)]; rfl
    rw [hdrop, findR] at hfi
    by_cases ha : x.r.a = a
    · rw [if_pos ha] at hfi
      simp only [go_sem, reduceIte, Nat.reduceAdd, Nat.reduceSub, Nat.reduceMul, Nat.reducePow, Nat.reduceLT, Nat.reduceLeDiff, Nat.reduceEqDiff, Int.reduceAdd, Int.reduceSub, Int.reduceMul, Int.reduceNeg, Int.reducePow, Int.reduceLT, Int.reduceLE, Int.reduceEq, Int.reduceNe, Int.reduceToNat, Int.toNat_natCast, Nat.zero_add, Nat.add_zero, Nat.mul_one, Nat.one_mul, Bool.not_true, Bool.not_false, ne_eq, not_true_eq_false, not_false_eq_true, Bool.false_eq_true, stA_p, ec, el, agg5_write hw, hcell, ha]
      rw [← hfi]
      exact hK _ f2
    · rw [if_neg ha] at hfi
      simp only [go_sem, reduceIte, Nat.reduceAdd, Nat.reduceSub, Nat.reduceMul, Nat.reducePow, Nat.reduceLT, Nat.reduceLeDiff, Nat.reduceEqDiff, Int.reduceAdd, Int.reduceSub, Int.reduceMul, Int.reduceNeg, Int.reducePow, Int.reduceLT, Int.reduceLE, Int.reduceEq, Int.reduceNe, Int.reduceToNat, Int.toNat_natCast, Nat.zero_add, Nat.add_zero, Nat.mul_one, Nat.one_mul, Bool.not_true, Bool.not_false, ne_eq, not_true_eq_false, not_false_eq_true, Bool.false_eq_true, stA_p, ec, el, agg5_write hw, hcell, ha, e2]
      exact ⟨l.length - (i + 1), by omega, i + 1, rfl, by omega, f2, hfi, rfl⟩
  · simp only [go_sem, reduceIte, Nat.reduceAdd, Nat.reduceSub, Nat.reduceMul, Nat.reducePow, Nat.reduceLT, Nat.reduceLeDiff, Nat.reduceEqDiff, Int.reduceAdd, Int.reduceSub, Int.reduceMul, Int.reduceNeg, Int.reducePow, Int.reduceLT, Int.reduceLE, Int.reduceEq, Int.reduceNe, Int.reduceToNat, Int.toNat_natCast, Nat.zero_add, Nat.add_zero, Nat.mul_one, Nat.one_mul, Bool.not_true, Bool.not_false, ne_eq, not_true_eq_false, not_false_eq_true, Bool.false_eq_true, hlt]
    have : i = l.length := by omega
    subst this
    rw [List.drop_length] at hfi
    have := hK h' f
    rw [hfi] at this
    exact this
end
end Go.Proofs.Ytljkkfcokpimkaa.X
set_option linter.unusedVariables false
set_option linter.unusedSimpArgs false
set_option maxRecDepth 20000
namespace Go.Proofs.Ytljkkfcokpimkaa.X
open Go Go.RowKit
theorem nd_flat {α : Type} (f : α → List Nat) : ∀ (l : List α) (i j : Nat) (x y : α) (c : Nat), (l.flatMap f).Nodup → l[i]? = some x → l[j]? = some y → i ≠ j → c ∈ f x → c ∉ f y
  | [], i, j, x, y, c, _, hx, _, _, _ => by simp at hx
  | z :: l, i, j, x, y, c, hn, hx, hy, hij, hc => by
    rw [List.flatMap_cons, List.nodup_append] at hn
    intro hc'
    cases i with
    | zero =>
      cases j with
      | zero => exact hij rfl
      | succ j =>
        simp at hx hy; subst hx
        exact hn.2.2 c hc c (List.mem_flatMap.2 ⟨y, List.mem_of_getElem? hy, hc'⟩) rfl
    | succ i =>
      cases j with
      | zero =>
        simp at hx hy; subst hy
        exact hn.2.2 c hc' c (List.mem_flatMap.2 ⟨x, List.mem_of_getElem? hx, hc⟩) rfl
      | succ j => exact nd_flat f l i j x y c hn.2.1 (by simpa using hx) (by simpa using hy) (by omega) hc hc'
theorem flat_set {α β : Type} (f : α → List β) : ∀ (l : List α) (k : Nat) (x y : α), l[k]? = some x → f y = f x → (l.set k y).flatMap f = l.flatMap f
  | [], k, x, y, h, _ => by simp at h
  | z :: l, 0, x, y, h, e => by simp at h; subst h; simp [e]
  | z :: l, k + 1, x, y, h, e => by simp at h; simp [flat_set f l k x y h e]
theorem findR_spec : ∀ (l : List RV) (a : Int) (j : Nat), (findR l a j = -1 ∧ ∀ x ∈ l, x.r.a ≠ a) ∨ ∃ (i : Nat) (x : RV), findR l a j = ((j + i : Nat) : Int) ∧ l[i]? = some x ∧ x.r.a = a ∧ l.find? (fun x => decide (x.r.a = a)) = some x
  | [], a, j => .inl ⟨rfl, by simp⟩
  | x :: l, a, j => by
    rw [findR]
    by_cases h : x.r.a = a
    · rw [if_pos h]
      exact .inr ⟨0, x, rfl, rfl, h, by simp [h]⟩
    · rw [if_neg h]
      rcases findR_spec l a (j + 1) with ⟨h1, h2⟩ | ⟨i, y, h1, h2, h3, h4⟩
      · left
        refine ⟨h1, fun y hy => ?_⟩
        rcases List.mem_cons.1 hy with rfl | hy
        · exact h
        · exact h2 y hy
      · right
        exact ⟨i + 1, y, by rw [h1]; congr 1; omega, by simpa using h2, h3, by simp [h, h4]⟩
theorem find_none {l : List RV} {a : Int} (h : ∀ x ∈ l, x.r.a ≠ a) : l.find? (fun x => decide (x.r.a = a)) = none := by
  rw [List.find?_eq_none]; intro x hx; simpa using h x hx
def atR (l : List RV) (a : Int) : Option RV := l.find? fun x => decide (x.r.a = a)
def fitsR (l : List RV) (w : Int) : Bool := decide (w % 2 = 1) || (atR l (w / 2)).isSome
def hasF (l : List RV) (a i : Int) : Bool := match atR l a with | some x => decide (0 ≤ i) && decide (i < x.r.fs.length) | none => false
def hasB (l : List RV) (a i : Int) : Bool := match atR l a with | some x => decide (0 ≤ i) && decide (i < x.r.bs.length) | none => false
def RV.setF (x : RV) (i : Nat) (w : Int) : RV := { x with r := { x.r with fs := x.r.fs.set i w } }
def RV.setB (x : RV) (i : Nat) (c : Nat) : RV := { x with r := { x.r with bs := x.r.bs.set i c } }
def modR (l : List RV) (a : Int) (f : RV → RV) : List RV := match l with
  | [] => []
  | x :: l => if x.r.a = a then f x :: l else x :: modR l a f
theorem modR_set : ∀ (l : List RV) (a : Int) (f : RV → RV) (i : Nat) (x : RV) (j : Nat), findR l a j = ((j + i : Nat) : Int) → l[i]? = some x → modR l a f = l.set i (f x)
  | [], a, f, i, x, j, _, h => by simp at h
  | y :: l, a, f, i, x, j, hf, h => by
    rw [findR] at hf
    rw [modR]
    by_cases hy : y.r.a = a
    · rw [if_pos hy] at hf ⊢
      have : i = 0 := by omega
      subst this
      simp at h; subst h; rfl
    · rw [if_neg hy] at hf ⊢
      cases i with
      | zero =>
        exfalso
        rcases findR_spec l a (j + 1) with ⟨h1, _⟩ | ⟨i, z, h1, _⟩
        · rw [h1] at hf; omega
        · rw [h1] at hf; omega
      | succ i =>
        rw [modR_set l a f i x (j + 1) (by rw [hf]; congr 1; omega) (by simpa using h)]
        rfl
section
variable {h0 h : H} {bx : Nat} {words : Int} {lays : List (Int × Int)} {BL : List Nat} {l : List RV}
theorem rfits_c (R : RefAt h0 h bx words lays BL l) (hl : l.length ≤ 1000) {w : Int} (w0 : 0 ≤ w) (w1 : w < 18446744073709551616) {K : AV → H → Prop} (hK : ∀ h', Fr [] h h' → K (.bool (fitsR l w)) h') : C 69 [.ptr bx 0, .int .u64 w] h K := by
  refine run69 ?_
  have e1 : w.tmod 2 = w % 2 := Int.tmod_eq_emod_of_nonneg w0
  have e2 : IntKind.u64.wrap (w.tdiv 2) = w / 2 := by rw [Int.tdiv_eq_ediv_of_nonneg w0, u64_id (by omega) (by omega)]
  have e3 : IntKind.i64.wrap (w / 2) = w / 2 := i64_id (by omega) (by omega)
  by_cases h1 : w % 2 = 1
  · have e : fitsR l w = true := by simp [fitsR, h1]
    rw [e] at hK
    simp only [sh69, go_sem, reduceIte, Nat.reduceAdd, Nat.reduceSub, Nat.reduceMul, Nat.reducePow, Nat.reduceLT, Nat.reduceLeDiff, Nat.reduceEqDiff, Int.reduceAdd, Int.reduceSub, Int.reduceMul, Int.reduceNeg, Int.reducePow, Int.reduceLT, Int.reduceLE, Int.reduceEq, Int.reduceNe, Int.reduceToNat, Int.toNat_natCast, Nat.zero_add, Nat.add_zero, Nat.mul_one, Nat.one_mul, Bool.not_true, Bool.not_false, ne_eq, not_true_eq_false, not_false_eq_true, Bool.false_eq_true, e1, h1]
    exact hK h (Fr.refl _ _)
  · have e : fitsR l w = (atR l (w / 2)).isSome := by simp [fitsR, h1]
    rw [e] at hK
    simp only [sh69, go_sem, reduceIte, Nat.reduceAdd, Nat.reduceSub, Nat.reduceMul, Nat.reducePow, Nat.reduceLT, Nat.reduceLeDiff, Nat.reduceEqDiff, Int.reduceAdd, Int.reduceSub, Int.reduceMul, Int.reduceNeg, Int.reducePow, Int.reduceLT, Int.reduceLE, Int.reduceEq, Int.reduceNe, Int.reduceToNat, Int.toNat_natCast, Nat.zero_add, Nat.add_zero, Nat.mul_one, Nat.one_mul, Bool.not_true, Bool.not_false, ne_eq, not_true_eq_false, not_false_eq_true, Bool.false_eq_true, e1, h1, e2, e3]
    refine rfind_c R hl _ fun h' f => ?_
    rcases findR_spec l (w / 2) 0 with ⟨g1, g2⟩ | ⟨i, x, g1, g2, g3, g4⟩
    · have q : atR l (w / 2) = none := find_none g2
      rw [q] at hK
      simp only [go_sem, reduceIte, Nat.reduceAdd, Nat.reduceSub, Nat.reduceMul, Nat.reducePow, Nat.reduceLT, Nat.reduceLeDiff, Nat.reduceEqDiff, Int.reduceAdd, Int.reduceSub, Int.reduceMul, Int.reduceNeg, Int.reducePow, Int.reduceLT, Int.reduceLE, Int.reduceEq, Int.reduceNe, Int.reduceToNat, Int.toNat_natCast, Nat.zero_add, Nat.add_zero, Nat.mul_one, Nat.one_mul, Bool.not_true, Bool.not_false, ne_eq, not_true_eq_false, not_false_eq_true, Bool.false_eq_true, g1]
      exact hK h' f
    · have q : atR l (w / 2) = some x := g4
      rw [q] at hK
      have p : (0 : Int) ≤ ((0 + i : Nat) : Int) := by omega
      simp only [Nat.zero_add] at g1 p
      simp only [go_sem, reduceIte, Nat.reduceAdd, Nat.reduceSub, Nat.reduceMul, Nat.reducePow, Nat.reduceLT, Nat.reduceLeDiff, Nat.reduceEqDiff, Int.reduceAdd, Int.reduceSub, Int.reduceMul, Int.reduceNeg, Int.reducePow, Int.reduceLT, Int.reduceLE, Int.reduceEq, Int.reduceNe, Int.reduceToNat, Int.toNat_natCast, Nat.zero_add, Nat.add_zero, Nat.mul_one, Nat.one_mul, Bool.not_true, Bool.not_false, ne_eq, not_true_eq_false, not_false_eq_true, Bool.false_eq_true, g1, p]
      exact hK h' f
theorem cells3 {b q : Nat} {x : RV} (hq : ∀ j, j < 5 → h.cell b (q + j) = x.cells[j]?) : h.cell b (q + 3) = some x.fv ∧ h.cell b (q + 4) = some x.bv ∧ h.cell b q = some (.int .i64 x.r.a) := ⟨hq 3 (by decide), hq 4 (by decide), hq 0 (by decide)⟩
theorem RefAt.putF (R : RefAt h0 h bx words lays BL l) {k : Nat} {x : RV} (hx : l[k]? = some x) {bf i : Nat} {w : Int} (hb : x.Bf = [bf]) : RefAt h0 (h.set bf (.live (wc (x.r.fs.set i w)) 25 true)) bx words lays BL (l.set k (x.setF i w)) := by
  obtain ⟨lv, Lv, s1, s2, s3⟩ := R.st
  have hxm := List.mem_of_getElem? hx
  have hbf : bf ∈ l.flatMap RV.blocks := List.mem_flatMap.2 ⟨x, hxm, by simp [RV.blocks, hb]⟩
  have hnd := R.nd
  unfold blocksR at hnd
  rw [List.nodup_cons, List.nodup_append] at hnd
  have hne : bx ≠ bf := fun e => hnd.1 (by rw [e]; simp; exact .inr (by simpa using hbf))
  have hBL : ∀ c ∈ BL, c ≠ bf := fun c hc => hnd.2.2.2 c hc bf hbf
  have hblk : blocksR bx BL (l.set k (x.setF i w)) = blocksR bx BL l := by unfold blocksR; rw [flat_set RV.blocks l k x (x.setF i w) hx rfl]
  have hcl : cellsR (l.set k (x.setF i w)) = cellsR l := flat_set RV.cells l k x (x.setF i w) hx rfl
  have hkeepV : ∀ {ty esz v B n cs}, SlV h ty esz v B n cs → bf ∉ B → SlV (h.set bf (.live (wc (x.r.fs.set i w)) 25 true)) ty esz v B n cs := fun o hB => o.fr (S := [bf]) (Fr.put (by simp)) fun c hc q => hB (by simp at q; rw [← q]; exact hc)
  have hkeep : ∀ {ty esz v B n cs}, SlW h ty esz v B n cs → bf ∉ B → SlW (h.set bf (.live (wc (x.r.fs.set i w)) 25 true)) ty esz v B n cs := fun o hB => o.fr (S := [bf]) (Fr.put (by simp)) fun c hc q => hB (by simp at q; rw [← q]; exact hc)
  refine ⟨R.fr.set' (R.new bf (by unfold blocksR; simp; exact .inr (.inr (by simpa using hbf)))), ⟨lv, Lv, by rw [H.get_other _ _ hne]; exact s1, s2, ?_⟩, ?_, by rw [hblk]; exact R.nd, by rw [hblk]; exact R.new⟩
  · rw [hcl, List.length_set]
    exact hkeepV s3 fun q => hBL bf q rfl
  · intro y hy
    obtain ⟨m, hm⟩ := List.getElem?_of_mem hy
    rw [List.getElem?_set] at hm
    by_cases hkm : k = m
    · subst hkm
      have hkl : k < l.length := (List.getElem?_eq_some_iff.1 hx).1
      rw [if_pos rfl, if_pos hkl] at hm
      injection hm with hm
      subst hm
      have hok := R.el x hxm
      have hnb : bf ∉ x.Bb := by
        have h1 : x.blocks.Nodup := by
          have := hnd.2.2.1
          obtain ⟨s, t, e⟩ := List.append_of_mem hxm
          rw [e, List.flatMap_append, List.flatMap_cons, List.nodup_append, List.nodup_append] at this
          exact this.2.1.1
        unfold RV.blocks at h1
        rw [hb, List.nodup_append] at h1
        exact fun q => h1.2.2 bf (by simp) bf q rfl
      refine ⟨⟨by simp [RV.setF, wc], ?_⟩, by simpa [RV.setF] using hkeep hok.2 hnb⟩
      rcases hok.1.2 with ⟨_, _, e⟩ | ⟨b', c', e1, e0, e2, _⟩
      · rw [hb] at e; cases e
      · rw [hb] at e2
        injection e2 with e2 _
        subst e2
        exact .inr ⟨bf, c', by simp [RV.setF, e1], e0, by simp [RV.setF, hb], by rw [H.get_same]; rfl⟩
    · rw [if_neg hkm] at hm
      have hok := R.el y (List.mem_of_getElem? hm)
      have hno : bf ∉ y.blocks := nd_flat RV.blocks l k m x y bf hnd.2.2.1 hx hm hkm (by simp [RV.blocks, hb])
      exact ⟨hkeep hok.1 fun q => hno (by simp [RV.blocks, q]), hkeep hok.2 fun q => hno (by simp [RV.blocks, q])⟩
theorem RefAt.putB (R : RefAt h0 h bx words lays BL l) {k : Nat} {x : RV} (hx : l[k]? = some x) {bb i : Nat} {w : Nat} (hb : x.Bb = [bb]) : RefAt h0 (h.set bb (.live (bc (x.r.bs.set i w)) 5 true)) bx words lays BL (l.set k (x.setB i w)) := by
  obtain ⟨lv, Lv, s1, s2, s3⟩ := R.st
  have hxm := List.mem_of_getElem? hx
  have hbf : bb ∈ l.flatMap RV.blocks := List.mem_flatMap.2 ⟨x, hxm, by simp [RV.blocks, hb]⟩
  have hnd := R.nd
  unfold blocksR at hnd
  rw [List.nodup_cons, List.nodup_append] at hnd
  have hne : bx ≠ bb := fun e => hnd.1 (by rw [e]; simp; exact .inr (by simpa using hbf))
  have hBL : ∀ c ∈ BL, c ≠ bb := fun c hc => hnd.2.2.2 c hc bb hbf
  have hblk : blocksR bx BL (l.set k (x.setB i w)) = blocksR bx BL l := by unfold blocksR; rw [flat_set RV.blocks l k x (x.setB i w) hx rfl]
  have hcl : cellsR (l.set k (x.setB i w)) = cellsR l := flat_set RV.cells l k x (x.setB i w) hx rfl
  have hkeepV : ∀ {ty esz v B n cs}, SlV h ty esz v B n cs → bb ∉ B → SlV (h.set bb (.live (bc (x.r.bs.set i w)) 5 true)) ty esz v B n cs := fun o hB => o.fr (S := [bb]) (Fr.put (by simp)) fun c hc q => hB (by simp at q; rw [← q]; exact hc)
  have hkeep : ∀ {ty esz v B n cs}, SlW h ty esz v B n cs → bb ∉ B → SlW (h.set bb (.live (bc (x.r.bs.set i w)) 5 true)) ty esz v B n cs := fun o hB => o.fr (S := [bb]) (Fr.put (by simp)) fun c hc q => hB (by simp at q; rw [← q]; exact hc)
  refine ⟨R.fr.set' (R.new bb (by unfold blocksR; simp; exact .inr (.inr (by simpa using hbf)))), ⟨lv, Lv, by rw [H.get_other _ _ hne]; exact s1, s2, ?_⟩, ?_, by rw [hblk]; exact R.nd, by rw [hblk]; exact R.new⟩
  · rw [hcl, List.length_set]
    exact hkeepV s3 fun q => hBL bb q rfl
  · intro y hy
    obtain ⟨m, hm⟩ := List.getElem?_of_mem hy
    rw [List.getElem?_set] at hm
    by_cases hkm : k = m
    · subst hkm
      have hkl : k < l.length := (List.getElem?_eq_some_iff.1 hx).1
      rw [if_pos rfl, if_pos hkl] at hm
      injection hm with hm
      subst hm
      have hok := R.el x hxm
      have hnb : bb ∉ x.Bf := by
        have h1 : x.blocks.Nodup := by
          have := hnd.2.2.1
          obtain ⟨s, t, e⟩ := List.append_of_mem hxm
          rw [e, List.flatMap_append, List.flatMap_cons, List.nodup_append, List.nodup_append] at this
          exact this.2.1.1
        unfold RV.blocks at h1
        rw [hb, List.nodup_append] at h1
        exact fun q => h1.2.2 bb q bb (by simp) rfl
      refine ⟨by simpa [RV.setB] using hkeep hok.1 hnb, ⟨by simp [RV.setB, bc], ?_⟩⟩
      rcases hok.2.2 with ⟨_, _, e⟩ | ⟨b', c', e1, e0, e2, _⟩
      · rw [hb] at e; cases e
      · rw [hb] at e2
        injection e2 with e2 _
        subst e2
        exact .inr ⟨bb, c', by simp [RV.setB, e1], e0, by simp [RV.setB, hb], by rw [H.get_same]; rfl⟩
    · rw [if_neg hkm] at hm
      have hok := R.el y (List.mem_of_getElem? hm)
      have hno : bb ∉ y.blocks := nd_flat RV.blocks l k m x y bb hnd.2.2.1 hx hm hkm (by simp [RV.blocks, hb])
      exact ⟨hkeep hok.1 fun q => hno (by simp [RV.blocks, q]), hkeep hok.2 fun q => hno (by simp [RV.blocks, q])⟩
end
end Go.Proofs.Ytljkkfcokpimkaa.X
set_option linter.unusedVariables false
set_option linter.unusedSimpArgs false
set_option maxRecDepth 20000
namespace Go.Proofs.Ytljkkfcokpimkaa.X
open Go Go.RowKit
theorem st_val {h : H} {b e off : Nat} {cs : List AV} {v : AV} (hb : h.get b = some (.live cs e true)) (ho : off < cs.length) (hv : v.leaf = true) (hc : v.cells = [v]) : stA h 1 (.ptr b off) v = some (h.set b (.live (cs.set off v) e true)) := by
  simp only [stA, hc, List.length_singleton, if_true]
  exact write_one hb ho hv
theorem bc_set (l : List Nat) (i c : Nat) : (bc l).set i (.int .u8 c) = bc (l.set i c) := by simp [bc, List.map_set]
theorem mem_blocks {bx : Nat} {BL : List Nat} {l : List RV} {k : Nat} {x : RV} (hx : l[k]? = some x) {c : Nat} (hc : c ∈ x.blocks) : c ∈ blocksR bx BL l := by
  unfold blocksR
  simp only [List.mem_cons, List.mem_append, List.mem_flatMap]
  exact .inr (.inr ⟨x, List.mem_of_getElem? hx, hc⟩)
section
variable {h0 h : H} {bx : Nat} {words : Int} {lays : List (Int × Int)} {BL : List Nat} {l : List RV}
theorem rset_c (R : RefAt h0 h bx words lays BL l) (hl : l.length ≤ 1000) (a i : Int) {w : Int} (w0 : 0 ≤ w) (w1 : w < 18446744073709551616) {K : AV → H → Prop}
    (hno : (hasF l a i && fitsR l w) = false → ∀ h', Fr [] h h' → K (.int .i64 1) h')
    (hyes : (hasF l a i && fitsR l w) = true → ∀ h', Fr (blocksR bx BL l) h h' → RefAt h0 h' bx words lays BL (modR l a (·.setF i.toNat w)) → K (.int .i64 0) h') : C 103 [.ptr bx 0, .int .i64 a, .int .i64 i, .int .u64 w] h K := by
  refine run103 ?_
  unfold sh103
  refine rfind_c R hl a fun h1 f1 => ?_
  have R1 := R.keep0 f1
  obtain ⟨lv, Lv, c, r, o⟩ := R1.cells
  rcases findR_spec l a 0 with ⟨g1, g2⟩ | ⟨k, x, g1, g2, g3, g4⟩
  · have q : hasF l a i = false := by unfold hasF atR; rw [find_none g2]
    rw [q] at hno
    simp only [go_sem, reduceIte, Nat.reduceAdd, Nat.reduceSub, Nat.reduceMul, Nat.reducePow, Nat.reduceLT, Nat.reduceLeDiff, Nat.reduceEqDiff, Int.reduceAdd, Int.reduceSub, Int.reduceMul, Int.reduceNeg, Int.reducePow, Int.reduceLT, Int.reduceLE, Int.reduceEq, Int.reduceNe, Int.reduceToNat, Int.toNat_natCast, Nat.zero_add, Nat.add_zero, Nat.mul_one, Nat.one_mul, Bool.not_true, Bool.not_false, ne_eq, not_true_eq_false, not_false_eq_true, Bool.false_eq_true, g1]
    exact hno rfl h1 f1
  · have q : hasF l a i = (decide (0 ≤ i) && decide (i < x.r.fs.length)) := by unfold hasF atR; rw [g4]
    have gm := modR_set l a (·.setF i.toNat w) k x 0 g1 g2
    obtain ⟨b, p, p1, p2, p3⟩ := o.obj g2
    obtain ⟨c3, c4, c0⟩ := cells3 p2
    have hok := R1.el x (List.mem_of_getElem? g2)
    simp only [Nat.zero_add] at g1
    have gn : ¬ ((k : Nat) : Int) < 0 := by omega
    by_cases i0 : i < 0
    · have i0' : ¬ 0 ≤ i := by omega
      rw [q] at hno
      simp only [go_sem, reduceIte, Nat.reduceAdd, Nat.reduceSub, Nat.reduceMul, Nat.reducePow, Nat.reduceLT, Nat.reduceLeDiff, Nat.reduceEqDiff, Int.reduceAdd, Int.reduceSub, Int.reduceMul, Int.reduceNeg, Int.reducePow, Int.reduceLT, Int.reduceLE, Int.reduceEq, Int.reduceNe, Int.reduceToNat, Int.toNat_natCast, Nat.zero_add, Nat.add_zero, Nat.mul_one, Nat.one_mul, Bool.not_true, Bool.not_false, ne_eq, not_true_eq_false, not_false_eq_true, Bool.false_eq_true, g1, gn, i0]
      exact hno (by simp [i0']) h1 f1
    · have i0' : 0 ≤ i := by omega
      by_cases i1 : i < (x.r.fs.length : Int)
      · have i1' : ¬ (x.r.fs.length : Int) ≤ i := by omega
        have q' : hasF l a i = true := by rw [q]; simp [i0', i1]
        rw [q', Bool.true_and] at hno hyes
        simp only [go_sem, reduceIte, Nat.reduceAdd, Nat.reduceSub, Nat.reduceMul, Nat.reducePow, Nat.reduceLT, Nat.reduceLeDiff, Nat.reduceEqDiff, Int.reduceAdd, Int.reduceSub, Int.reduceMul, Int.reduceNeg, Int.reducePow, Int.reduceLT, Int.reduceLE, Int.reduceEq, Int.reduceNe, Int.reduceToNat, Int.toNat_natCast, Nat.zero_add, Nat.add_zero, Nat.mul_one, Nat.one_mul, Bool.not_true, Bool.not_false, ne_eq, not_true_eq_false, not_false_eq_true, Bool.false_eq_true, g1, gn, i0, c, p1, c3, hok.1.row.len, i1']
        refine rfits_c R1 hl w0 w1 fun h2 f2 => ?_
        have R2 := R1.keep0 f2
        obtain ⟨lv2, Lv2, cc, r2, o2⟩ := R2.cells
        obtain ⟨b2, p', p1', p2', _⟩ := o2.obj g2
        obtain ⟨c3', _, _⟩ := cells3 p2'
        have hok2 := R2.el x (List.mem_of_getElem? g2)
        cases hf : fitsR l w
        · simp only [go_sem, reduceIte, Nat.reduceAdd, Nat.reduceSub, Nat.reduceMul, Nat.reducePow, Nat.reduceLT, Nat.reduceLeDiff, Nat.reduceEqDiff, Int.reduceAdd, Int.reduceSub, Int.reduceMul, Int.reduceNeg, Int.reducePow, Int.reduceLT, Int.reduceLE, Int.reduceEq, Int.reduceNe, Int.reduceToNat, Int.toNat_natCast, Nat.zero_add, Nat.add_zero, Nat.mul_one, Nat.one_mul, Bool.not_true, Bool.not_false, ne_eq, not_true_eq_false, not_false_eq_true, Bool.false_eq_true]
          exact hno hf h2 (f1.trans f2)
        · rcases hok2.1.2 with ⟨z, _, _⟩ | ⟨bf, cb, e1, e0, e2, e3⟩
          · omega
          · have st := st_one (k := .u64) (n := w) e3 (off := i.toNat) (by rw [wc_length]; omega)
            rw [wc_set] at st
            rw [e1] at c3'
            simp only [go_sem, reduceIte, Nat.reduceAdd, Nat.reduceSub, Nat.reduceMul, Nat.reducePow, Nat.reduceLT, Nat.reduceLeDiff, Nat.reduceEqDiff, Int.reduceAdd, Int.reduceSub, Int.reduceMul, Int.reduceNeg, Int.reducePow, Int.reduceLT, Int.reduceLE, Int.reduceEq, Int.reduceNe, Int.reduceToNat, Int.toNat_natCast, Nat.zero_add, Nat.add_zero, Nat.mul_one, Nat.one_mul, Bool.not_true, Bool.not_false, ne_eq, not_true_eq_false, not_false_eq_true, Bool.false_eq_true, cc, p1', c3', i0', i1, st]
            refine hyes hf _ ((f1.trans f2).more.trans (Fr.put (mem_blocks g2 (by simp [RV.blocks, e2])))) ?_
            rw [gm]
            exact R2.putF g2 e2
      · have i1' : (x.r.fs.length : Int) ≤ i := by omega
        rw [q] at hno
        simp only [go_sem, reduceIte, Nat.reduceAdd, Nat.reduceSub, Nat.reduceMul, Nat.reducePow, Nat.reduceLT, Nat.reduceLeDiff, Nat.reduceEqDiff, Int.reduceAdd, Int.reduceSub, Int.reduceMul, Int.reduceNeg, Int.reducePow, Int.reduceLT, Int.reduceLE, Int.reduceEq, Int.reduceNe, Int.reduceToNat, Int.toNat_natCast, Nat.zero_add, Nat.add_zero, Nat.mul_one, Nat.one_mul, Bool.not_true, Bool.not_false, ne_eq, not_true_eq_false, not_false_eq_true, Bool.false_eq_true, g1, gn, i0, c, p1, c3, hok.1.row.len, i1']
        exact hno (by simp [i1]) h1 f1
theorem rsetByte_c (R : RefAt h0 h bx words lays BL l) (hl : l.length ≤ 1000) (a i : Int) (w : Nat) {K : AV → H → Prop}
    (hno : hasB l a i = false → ∀ h', Fr [] h h' → K (.int .i64 1) h')
    (hyes : hasB l a i = true → ∀ h', Fr (blocksR bx BL l) h h' → RefAt h0 h' bx words lays BL (modR l a (·.setB i.toNat w)) → K (.int .i64 0) h') : C 104 [.ptr bx 0, .int .i64 a, .int .i64 i, .int .u8 (w : Nat)] h K := by
  refine run104 ?_
  unfold sh104
  refine rfind_c R hl a fun h1 f1 => ?_
  have R1 := R.keep0 f1
  obtain ⟨lv, Lv, c, r, o⟩ := R1.cells
  rcases findR_spec l a 0 with ⟨g1, g2⟩ | ⟨k, x, g1, g2, g3, g4⟩
  · have q : hasB l a i = false := by unfold hasB atR; rw [find_none g2]
    simp only [go_sem, reduceIte, Nat.reduceAdd, Nat.reduceSub, Nat.reduceMul, Nat.reducePow, Nat.reduceLT, Nat.reduceLeDiff, Nat.reduceEqDiff, Int.reduceAdd, Int.reduceSub, Int.reduceMul, Int.reduceNeg, Int.reducePow, Int.reduceLT, Int.reduceLE, Int.reduceEq, Int.reduceNe, Int.reduceToNat, Int.toNat_natCast, Nat.zero_add, Nat.add_zero, Nat.mul_one, Nat.one_mul, Bool.not_true, Bool.not_false, ne_eq, not_true_eq_false, not_false_eq_true, Bool.false_eq_true, g1]
    exact hno q h1 f1
  · have q : hasB l a i = (decide (0 ≤ i) && decide (i < x.r.bs.length)) := by unfold hasB atR; rw [g4]
    have gm := modR_set l a (·.setB i.toNat w) k x 0 g1 g2
    obtain ⟨b, p, p1, p2, p3⟩ := o.obj g2
    obtain ⟨c3, c4, c0⟩ := cells3 p2
    have hok := R1.el x (List.mem_of_getElem? g2)
    simp only [Nat.zero_add] at g1
    have gn : ¬ ((k : Nat) : Int) < 0 := by omega
    by_cases i0 : i < 0
    · have i0' : ¬ 0 ≤ i := by omega
      simp only [go_sem, reduceIte, Nat.reduceAdd, Nat.reduceSub, Nat.reduceMul, Nat.reducePow, Nat.reduceLT, Nat.reduceLeDiff, Nat.reduceEqDiff, Int.reduceAdd, Int.reduceSub, Int.reduceMul, Int.reduceNeg, Int.reducePow, Int.reduceLT, Int.reduceLE, Int.reduceEq, Int.reduceNe, Int.reduceToNat, Int.toNat_natCast, Nat.zero_add, Nat.add_zero, Nat.mul_one, Nat.one_mul, Bool.not_true, Bool.not_false, ne_eq, not_true_eq_false, not_false_eq_true, Bool.false_eq_true, g1, gn, i0]
      exact hno (by rw [q]; simp [i0']) h1 f1
    · have i0' : 0 ≤ i := by omega
      by_cases i1 : i < (x.r.bs.length : Int)
      · have i1' : ¬ (x.r.bs.length : Int) ≤ i := by omega
        rcases hok.2.2 with ⟨z, _, _⟩ | ⟨bb, cb, e1, e0, e2, e3⟩
        · omega
        · have st := st_one (k := .u8) (n := (w : Nat)) e3 (off := i.toNat) (by rw [bc_length]; omega)
          rw [bc_set] at st
          have c4' := c4
          rw [e1] at c4'
          simp only [go_sem, reduceIte, Nat.reduceAdd, Nat.reduceSub, Nat.reduceMul, Nat.reducePow, Nat.reduceLT, Nat.reduceLeDiff, Nat.reduceEqDiff, Int.reduceAdd, Int.reduceSub, Int.reduceMul, Int.reduceNeg, Int.reducePow, Int.reduceLT, Int.reduceLE, Int.reduceEq, Int.reduceNe, Int.reduceToNat, Int.toNat_natCast, Nat.zero_add, Nat.add_zero, Nat.mul_one, Nat.one_mul, Bool.not_true, Bool.not_false, ne_eq, not_true_eq_false, not_false_eq_true, Bool.false_eq_true, g1, gn, i0, c, p1, c4', i1', i0', i1, st]
          refine hyes (by rw [q]; simp [i0', i1]) _ (f1.more.trans (Fr.put (mem_blocks g2 (by simp [RV.blocks, e2])))) ?_
          rw [gm]
          exact R1.putB g2 e2
      · have i1' : (x.r.bs.length : Int) ≤ i := by omega
        simp only [go_sem, reduceIte, Nat.reduceAdd, Nat.reduceSub, Nat.reduceMul, Nat.reducePow, Nat.reduceLT, Nat.reduceLeDiff, Nat.reduceEqDiff, Int.reduceAdd, Int.reduceSub, Int.reduceMul, Int.reduceNeg, Int.reducePow, Int.reduceLT, Int.reduceLE, Int.reduceEq, Int.reduceNe, Int.reduceToNat, Int.toNat_natCast, Nat.zero_add, Nat.add_zero, Nat.mul_one, Nat.one_mul, Bool.not_true, Bool.not_false, ne_eq, not_true_eq_false, not_false_eq_true, Bool.false_eq_true, g1, gn, i0, c, p1, c4, hok.2.row.len, i1']
        exact hno (by rw [q]; simp [i1]) h1 f1
theorem Own.ne {h1 h' : H} {ty esz : Nat} {v : AV} {n : Nat} {cs : List AV} (o : Own h1 h' ty esz v n cs) {d ty' : Nat} {cs' : List AV} {w : Bool} (hd : h'.get d = some (.live cs' ty' w)) (ht : ty ≠ ty') : ∀ n' p, v ≠ .sl d 0 n' p := by
  rintro n' p rfl
  rcases o.2 with ⟨_, q⟩ | ⟨b, q, _, q3⟩
  · cases q
  · injection q with q _
    rw [← q, hd] at q3
    injection q3 with q3; injection q3 with _ q3 _
    exact ht q3.symm
theorem Own.keep {h1 h' h'' : H} {ty esz : Nat} {v : AV} {n : Nat} {cs : List AV} (o : Own h1 h' ty esz v n cs) (k : ∀ c n' p, v = .sl c 0 n' p → ∀ ob, h'.get c = some ob → h''.get c = some ob) : Own h1 h'' ty esz v n cs := by
  refine ⟨o.1, ?_⟩
  rcases o.2 with q | ⟨b, q1, q2, q3⟩
  · exact .inl q
  · exact .inr ⟨b, q1, q2, k b _ _ q1 _ q3⟩
theorem Own.slv {h1 h' : H} {ty esz : Nat} {v : AV} {n : Nat} {cs : List AV} (o : Own h1 h' ty esz v n cs) : ∃ B, SlV h' ty esz v B n cs ∧ (∀ c ∈ B, h1.get c = none ∧ h'.get c = some (.live cs ty true)) ∧ B.Nodup := by
  rcases o.2 with ⟨q1, q2⟩ | ⟨b, q1, q2, q3⟩
  · exact ⟨[], ⟨o.1, .inl ⟨q1, q2, rfl⟩⟩, by simp, by simp⟩
  · exact ⟨[b], ⟨o.1, .inr ⟨b, q1, rfl, q3⟩⟩, by simp [q2, q3], by simp⟩
def OwnW (h1 h' : H) (ty esz : Nat) (v : AV) (n : Nat) (cs : List AV) : Prop := ∃ B, SlW h' ty esz v B n cs ∧ (∀ c ∈ B, h1.get c = none ∧ h'.get c = some (.live cs ty true)) ∧ B.Nodup
theorem Own.w {h1 h' : H} {ty esz : Nat} {v : AV} {n : Nat} {cs : List AV} (o : Own h1 h' ty esz v n cs) : OwnW h1 h' ty esz v n cs := by
  obtain ⟨B, q1, q2, q3⟩ := o.slv
  exact ⟨B, q1.w, q2, q3⟩
theorem RefAt.alive (R : RefAt h0 h bx words lays BL l) : ∀ c ∈ blocksR bx BL l, h.get c ≠ none := by
  intro c hc
  obtain ⟨lv, Lv, g1, g2, g3⟩ := R.st
  have sl : ∀ {ty esz v B n cs}, SlW h ty esz v B n cs → c ∈ B → h.get c ≠ none := fun o hB => by
    rcases o.2 with ⟨_, _, e⟩ | ⟨b, _, _, _, e, g⟩
    · rw [e] at hB; cases hB
    · rw [e] at hB; simp at hB; subst hB; rw [g]; simp
  simp only [blocksR, List.mem_cons, List.mem_append, List.mem_flatMap] at hc
  rcases hc with rfl | hc | ⟨x, hx, hc⟩
  · rw [g1]; simp
  · exact sl g3.w hc
  · simp only [RV.blocks, List.mem_append] at hc
    rcases hc with hc | hc
    · exact sl (R.el x hx).1 hc
    · exact sl (R.el x hx).2 hc
def newRO (lays : List (Int × Int)) (a i n : Int) : RO := ⟨a, i, n, if kindAt lays i = 3 then [] else List.replicate n.toNat 1, if kindAt lays i = 3 then List.replicate n.toNat 0 else []⟩
theorem ralloc_c (R : RefAt h0 h bx words lays BL l) (hl : l.length ≤ 1000) (hw0 : 0 ≤ words) (hw1 : words ≤ 65536) (i n : Int) {K : AV → H → Prop}
    (hE : (needN lays i n).2 ≠ 0 → ∀ h', Fr [] h h' → K (.tup [.int .i64 0, .int .i64 (needN lays i n).2]) h')
    (hF : (needN lays i n).2 = 0 → words - topR lays l < (needN lays i n).1 → ∀ h', Fr [] h h' → K (.tup [.int .i64 0, .int .i64 3]) h')
    (hG : (needN lays i n).2 = 0 → (needN lays i n).1 ≤ words - topR lays l → ∀ h' BL' x, Fr (blocksR bx BL l) h h' → RefAt h0 h' bx words lays BL' (l ++ [x]) → x.r = newRO lays (topR lays l) i n →
      (∀ c ∈ blocksR bx BL' (l ++ [x]), c ∈ blocksR bx BL l ∨ h.get c = none) → K (.tup [.int .i64 (topR lays l), .int .i64 0]) h') : C 102 [.ptr bx 0, .int .i64 i, .int .i64 n] h K := by
  refine run102 ?_
  obtain ⟨lv, Lv, c, r, o⟩ := R.cells
  have n53 := fun K => rneed_c (h := h) (bx := bx) (by rw [c]; rfl) r i n K
  by_cases he : (needN lays i n).2 = 0
  · obtain ⟨p1, p2, p3, p4, p5, p6⟩ := need_pos he
    simp only [sh102, n53, extA_t, List.getElem?_cons_zero, List.getElem?_cons_succ, valA_some, he, b_neq, ne_eq, not_true_eq_false, decide_false, condA_f]
    refine rtop_c R hl fun h1 f1 => ?_
    have R1 := R.keep0 f1
    have ht := topR_range lays l
    obtain ⟨lv1, Lv1, c1, r1, o1⟩ := R1.cells
    have e1 : IntKind.i64.wrap (words - topR lays l) = words - topR lays l := i64_id (by omega) (by omega)
    by_cases hk : words - topR lays l < (needN lays i n).1
    · simp only [go_sem, reduceIte, Nat.reduceAdd, Nat.reduceSub, Nat.reduceMul, Nat.reducePow, Nat.reduceLT, Nat.reduceLeDiff, Nat.reduceEqDiff, Int.reduceAdd, Int.reduceSub, Int.reduceMul, Int.reduceNeg, Int.reducePow, Int.reduceLT, Int.reduceLE, Int.reduceEq, Int.reduceNe, Int.reduceToNat, Int.toNat_natCast, Nat.zero_add, Nat.add_zero, Nat.mul_one, Nat.one_mul, Bool.not_true, Bool.not_false, ne_eq, not_true_eq_false, not_false_eq_true, Bool.false_eq_true, c1, e1, hk]
      exact hF he hk h1 f1
    · have ef : fillV [.int .i64 0, .int .i64 0, .int .i64 0, .nilsl, .nilsl] [(0, 1, .int .i64 (topR lays l)), (1, 1, .int .i64 i), (2, 1, .int .i64 n)] = some [.int .i64 (topR lays l), .int .i64 i, .int .i64 n, .nilsl, .nilsl] := rfl
      simp only [go_sem, reduceIte, Nat.reduceAdd, Nat.reduceSub, Nat.reduceMul, Nat.reducePow, Nat.reduceLT, Nat.reduceLeDiff, Nat.reduceEqDiff, Int.reduceAdd, Int.reduceSub, Int.reduceMul, Int.reduceNeg, Int.reducePow, Int.reduceLT, Int.reduceLE, Int.reduceEq, Int.reduceNe, Int.reduceToNat, Int.toNat_natCast, Nat.zero_add, Nat.add_zero, Nat.mul_one, Nat.one_mul, Bool.not_true, Bool.not_false, ne_eq, not_true_eq_false, not_false_eq_true, Bool.false_eq_true, c1, e1, hk, ef]
      refine ⟨rfl, fun d hd => ?_⟩
      have hd0 : h0.get d = none := R1.fr.free hd
      have hst : stA (h1.set d (.live [.int .i64 0, .int .i64 0, .int .i64 0, .nilsl, .nilsl] 89 true)) 5 (.ptr d 0) (.agg [.int .i64 (topR lays l), .int .i64 i, .int .i64 n, .nilsl, .nilsl]) = some (h1.set d (.live [.int .i64 (topR lays l), .int .i64 i, .int .i64 n, .nilsl, .nilsl] 89 true)) := by
        simp only [stA_p, AV.cells, List.length_cons, List.length_nil, Nat.reduceAdd, if_true]
        exact write_new rfl rfl
      simp only [hst, memA_some]
      have hi : ((i.toNat : Nat) : Int) = i := by omega
      have hdx : d ≠ bx := fun e => by
        obtain ⟨_, _, s1, _⟩ := R1.st
        rw [← e, hd] at s1; cases s1
      -- what is laid at d, round by round
      let St : H → Nat → Prop := fun h' j => ∃ fv bv, h'.get d = some (.live [.int .i64 (topR lays l), .int .i64 i, .int .i64 n, fv, bv] 89 true) ∧ Fr [] h1 h' ∧
        Own h1 h' 25 1 fv (if kindAt lays i = 3 then [] else List.replicate j (1 : Int)).length (wc (if kindAt lays i = 3 then [] else List.replicate j 1)) ∧
        Own h1 h' 5 1 bv (if kindAt lays i = 3 then List.replicate j 0 else []).length (bc (if kindAt lays i = 3 then List.replicate j 0 else []))
      refine join_r (fun (J : H → Prop) => ∀ h', St h' n.toNat → J h') ?_ fun J hJ => ?_
      · rintro h' ⟨fv, bv, gd, f', of, ob⟩
        have R2 := R1.keep0 f'
        obtain ⟨lv2, Lv2, s1, s2, s3⟩ := R2.st
        have cx : ∀ off, h'.cell bx off = [AV.int .i64 words, lv2, Lv2][off]? := fun off => cell_of s1 off
        have hleaf : fv.leaf = true ∧ fv.cells = [fv] := of.row.one
        have bleaf : bv.leaf = true ∧ bv.cells = [bv] := ob.row.one
        have rd : h'.read d 0 5 = some [.int .i64 (topR lays l), .int .i64 i, .int .i64 n, fv, bv] := H.read_eq gd (by simp) (by simp)
        have elv : leaves [AV.int .i64 (topR lays l), .int .i64 i, .int .i64 n, fv, bv] = true := by simp only [leaves, hleaf.1, bleaf.1]; rfl
        have ef5 : fillV [.int .i64 0, .int .i64 0, .int .i64 0, .nilsl, .nilsl] [(0, 5, .agg [.int .i64 (topR lays l), .int .i64 i, .int .i64 n, fv, bv])] = some [.int .i64 (topR lays l), .int .i64 i, .int .i64 n, fv, bv] := by
          simp only [fillV, AV.cells, elv]; rfl
        simp only [go_sem, reduceIte, Nat.reduceAdd, Nat.reduceSub, Nat.reduceMul, Nat.reducePow, Nat.reduceLT, Nat.reduceLeDiff, Nat.reduceEqDiff, Int.reduceAdd, Int.reduceSub, Int.reduceMul, Int.reduceNeg, Int.reducePow, Int.reduceLT, Int.reduceLE, Int.reduceEq, Int.reduceNe, Int.reduceToNat, Int.toNat_natCast, Nat.zero_add, Nat.add_zero, Nat.mul_one, Nat.one_mul, Bool.not_true, Bool.not_false, ne_eq, not_true_eq_false, not_false_eq_true, Bool.false_eq_true, cx, rd, ef5]
        have hown : Own h0 h' 89 5 Lv2 l.length (cellsR l) := by
          refine ⟨s3.1, ?_⟩
          rcases s3.2 with ⟨z1, z2, _⟩ | ⟨bL, z1, z2, z3⟩
          · exact .inl ⟨z1, z2⟩
          · exact .inr ⟨bL, z1, R.new bL (by simp [blocksR, z2]), z3⟩
        refine append_one' (h0 := h0) hown rfl (by decide) ?_ elv R2.fr ?_ fun v3 h3 o3 f3 k3 w3 => ?_
        · have : ∀ l : List RV, (∀ x ∈ l, x.ok h') → leaves (cellsR l) = true := by
            intro l
            induction l with
            | nil => intro _; rfl
            | cons x l ih =>
              intro hx
              have e : cellsR (x :: l) = x.cells ++ cellsR l := by simp [cellsR]
              rw [e, leaves_append, RV.leaves (hx x (by simp)), ih fun y hy => hx y (by simp [hy])]; rfl
          exact this l R2.el
        · unfold most; omega
        · have hLne : ∀ c, (∀ n' p, Lv2 ≠ .sl c 0 n' p) ↔ c ∉ BL := fun c => by
            rcases s3.2 with ⟨_, z2, z3⟩ | ⟨bL, z1, z2, _⟩
            · rw [z2, z3]; simp
            · rw [z1, z2]
              constructor
              · intro q hc; simp at hc; subst hc; exact q _ _ rfl
              · intro hc n' p q; injection q with q _; exact hc (by simp [q])
          have hnd := R.nd
          unfold blocksR at hnd
          rw [List.nodup_cons, List.nodup_append] at hnd
          have gx3 := k3 bx _ s1 ((hLne bx).2 fun q => hnd.1 (by simp [q]))
          have v3l := o3.row.one
          have st3 := st_val gx3 (off := 2) (by simp) v3l.1 v3l.2
          have cx3 : ∀ off, h3.cell bx off = [AV.int .i64 words, lv2, Lv2][off]? := fun off => cell_of gx3 off
          simp only [go_sem, reduceIte, Nat.reduceAdd, Nat.reduceSub, Nat.reduceMul, Nat.reducePow, Nat.reduceLT, Nat.reduceLeDiff, Nat.reduceEqDiff, Int.reduceAdd, Int.reduceSub, Int.reduceMul, Int.reduceNeg, Int.reducePow, Int.reduceLT, Int.reduceLE, Int.reduceEq, Int.reduceNe, Int.reduceToNat, Int.toNat_natCast, Nat.zero_add, Nat.add_zero, Nat.mul_one, Nat.one_mul, Bool.not_true, Bool.not_false, ne_eq, not_true_eq_false, not_false_eq_true, Bool.false_eq_true, st3]
          obtain ⟨b3, y1, y2⟩ := w3
          subst y1
          have y3 : h3.get b3 = some (.live (cellsR l ++ [AV.int .i64 (topR lays l), .int .i64 i, .int .i64 n, fv, bv]) 89 true) := by
            rcases o3.2 with ⟨z, _⟩ | ⟨b', z1, _, z3⟩
            · omega
            · injection z1 with z1 _; rw [z1]; exact z3
          obtain ⟨Bf, sf, hBf, ndf⟩ := of.w
          obtain ⟨Bb, sb, hBb, ndb⟩ := ob.w
          have al1 := R1.alive
          have al2 := R2.alive
          have nf : ∀ c ∈ Bf, c ∉ blocksR bx BL l := fun c hc q => al1 c q (hBf c hc).1
          have nb : ∀ c ∈ Bb, c ∉ blocksR bx BL l := fun c hc q => al1 c q (hBb c hc).1
          have nfb : ∀ c ∈ Bf, c ∉ Bb := fun c hc q => by
            have e1 := (hBf c hc).2; have e2 := (hBb c q).2
            rw [e1] at e2; injection e2 with e2; injection e2 with _ e2 _; cases e2
          have n3 : ∀ c o, h'.get c = some o → c ≠ b3 := fun c o hc e => by rw [e, y2] at hc; cases hc
          -- memory at the end
          have hget : ∀ c o, c ≠ bx → c ∉ BL → h'.get c = some o → (h3.set bx (.live ([AV.int .i64 words, lv2, Lv2].set 2 (.sl b3 0 (l.length + 1) (.more 5))) 56 true)).get c = some o := fun c o h1' h2' hc => by
            rw [H.get_other _ _ h1']
            exact k3 c o hc ((hLne c).2 h2')
          have inL : ∀ x ∈ l, ∀ c ∈ x.blocks, c ≠ bx ∧ c ∉ BL ∧ c ∈ blocksR bx BL l := fun x hx c hc => by
            have hm : c ∈ l.flatMap RV.blocks := List.mem_flatMap.2 ⟨x, hx, hc⟩
            refine ⟨fun e => hnd.1 (by rw [← e]; exact List.mem_append_right _ hm), fun q => hnd.2.2.2 c q c hm rfl, ?_⟩
            simp only [blocksR, List.mem_cons, List.mem_append]
            exact .inr (.inr hm)
          have sl' : ∀ {ty esz v B n cs}, SlW h' ty esz v B n cs → (∀ c ∈ B, c ≠ bx ∧ c ∉ BL) → SlW (h3.set bx (.live ([AV.int .i64 words, lv2, Lv2].set 2 (.sl b3 0 (l.length + 1) (.more 5))) 56 true)) ty esz v B n cs := fun o hB => by
            refine ⟨o.1, ?_⟩
            rcases o.2 with q | ⟨b', c', q1, q0, q2, q3⟩
            · exact .inl q
            · exact .inr ⟨b', c', q1, q0, q2, hget b' _ (hB b' (by simp [q2])).1 (hB b' (by simp [q2])).2 q3⟩
          have out : ∀ {B : List Nat}, (∀ c ∈ B, c ∉ blocksR bx BL l) → ∀ c ∈ B, c ≠ bx ∧ c ∉ BL := fun hB c hc => ⟨fun e => hB c hc (by simp [blocksR, e]), fun q => hB c hc (by simp [blocksR, q])⟩
          refine hG he (by omega) _ [b3] ⟨newRO lays (topR lays l) i n, fv, bv, Bf, Bb⟩ ?_ ⟨f3.set' (R.new bx (by simp [blocksR])), ⟨lv2, .sl b3 0 (l.length + 1) (.more 5), by rw [H.get_same]; rfl, s2, ?_⟩, ?_, ?_, ?_⟩ rfl ?_
          · refine (f1.more.trans ?_).trans (Fr.put (by simp [blocksR]))
            intro c o hc hg
            exact k3 c o (f' c o (by simp) hg) ((hLne c).2 fun q => hc (by simp [blocksR, q]))
          · have ec : cellsR (l ++ [⟨newRO lays (topR lays l) i n, fv, bv, Bf, Bb⟩]) = cellsR l ++ [AV.int .i64 (topR lays l), .int .i64 i, .int .i64 n, fv, bv] := by simp [cellsR, RV.cells, newRO]
            refine ⟨by rw [cellsR_length], .inr ⟨b3, by simp, rfl, ?_⟩⟩
            rw [H.get_other _ _ (fun e => n3 bx _ s1 e.symm), ec]
            exact y3
          · intro x hx
            rcases List.mem_append.1 hx with hx | hx
            · have hok := R2.el x hx
              exact ⟨sl' hok.1 fun c hc => by have := inL x hx c (by simp [RV.blocks, hc]); exact ⟨this.1, this.2.1⟩, sl' hok.2 fun c hc => by have := inL x hx c (by simp [RV.blocks, hc]); exact ⟨this.1, this.2.1⟩⟩
            · simp only [List.mem_singleton] at hx
              subst hx
              refine ⟨?_, ?_⟩
              · have := sl' sf (out nf)
                simpa [newRO] using this
              · have := sl' sb (out nb)
                simpa [newRO] using this
          · have hb3 : ∀ c ∈ blocksR bx BL l, c ≠ b3 := fun c hc => by
              obtain ⟨o, ho⟩ := Option.ne_none_iff_exists'.1 (al2 c hc)
              exact n3 c o ho
            have hb3f : b3 ∉ Bf := fun q => n3 b3 _ (hBf b3 q).2 rfl
            have hb3b : b3 ∉ Bb := fun q => n3 b3 _ (hBb b3 q).2 rfl
            have hflat : (l ++ [(⟨newRO lays (topR lays l) i n, fv, bv, Bf, Bb⟩ : RV)]).flatMap RV.blocks = l.flatMap RV.blocks ++ (Bf ++ Bb) := by simp [RV.blocks]
            unfold blocksR
            rw [hflat, List.nodup_cons, List.nodup_append, List.nodup_append, List.nodup_append]
            have inF : ∀ c ∈ l.flatMap RV.blocks, c ∈ blocksR bx BL l := fun c hc => by simp only [blocksR, List.mem_cons, List.mem_append]; exact .inr (.inr hc)
            refine ⟨?_, by simp, ⟨hnd.2.2.1, ⟨ndf, ndb, fun x hx y hy e => nfb x hx (by rw [e]; exact hy)⟩, ?_⟩, ?_⟩
            · intro q
              simp only [List.mem_append, List.mem_singleton] at q
              rcases q with q | q | q | q
              · exact n3 bx _ s1 q
              · exact hnd.1 (List.mem_append_right _ q)
              · exact nf bx q (by simp [blocksR])
              · exact nb bx q (by simp [blocksR])
            · intro x hx y hy e
              subst e
              rcases List.mem_append.1 hy with hy | hy
              · exact nf x hy (inF x hx)
              · exact nb x hy (inF x hx)
            · intro x hx y hy e
              simp only [List.mem_singleton] at hx
              subst hx; subst e
              rcases List.mem_append.1 hy with hy | hy
              · exact hb3 x (inF x hy) rfl
              · rcases List.mem_append.1 hy with hy | hy
                · exact hb3f hy
                · exact hb3b hy
          · intro c hc
            simp only [blocksR, List.mem_cons, List.mem_append, List.flatMap_append, List.flatMap_cons, List.flatMap_nil, List.append_nil, List.not_mem_nil, or_false, RV.blocks] at hc
            rcases hc with rfl | rfl | hc | hc | hc
            · exact R.new _ (by simp [blocksR])
            · exact R2.fr.free y2
            · exact R.new c (by simp only [blocksR, List.mem_cons, List.mem_append]; exact .inr (.inr hc))
            · exact R1.fr.free (hBf c hc).1
            · exact R1.fr.free (hBb c hc).1
          · intro c hc
            simp only [blocksR, List.mem_cons, List.mem_append, List.flatMap_append, List.flatMap_cons, List.flatMap_nil, List.append_nil, List.not_mem_nil, or_false, RV.blocks] at hc
            rcases hc with rfl | rfl | hc | hc | hc
            · exact .inl (by simp [blocksR])
            · exact .inr ((f1.trans f').free y2)
            · exact .inl (by simp only [blocksR, List.mem_cons, List.mem_append]; exact .inr (.inr hc))
            · exact .inr (f1.free (hBf c hc).1)
            · exact .inr (f1.free (hBb c hc).1)
      · refine loop_r n.toNat (fun k ls h' => ∃ j : Nat, ls = [.int .i64 j] ∧ (j : Int) ≤ n ∧ St h' j ∧ k = n.toNat - j) ⟨0, rfl, by omega, ⟨.nilsl, .nilsl, H.get_same .., Fr.new hd, by simpa [wc] using Own.nil h1 _ 25 1, by simpa [bc] using Own.nil h1 _ 5 1⟩, rfl⟩ ?_
        rintro k ls h' ⟨j, rfl, hj, ⟨fv, bv, gd, f', of, ob⟩, rfl⟩
        by_cases hlt : (j : Int) < n
        · have R2 := R1.keep0 f'
          obtain ⟨lv2, Lv2, c2, r2, o2⟩ := R2.cells
          obtain ⟨b2, q, q1, q2, q3, q4⟩ := r2.lay (lay_get (L := lays) (i := i) p2 p3)
          rw [hi] at q1
          have cd : ∀ off, h'.cell d off = [AV.int .i64 (topR lays l), .int .i64 i, .int .i64 n, fv, bv][off]? := fun off => cell_of gd off
          have e4 : IntKind.i64.wrap ((j : Int) + 1) = ((j + 1 : Nat) : Int) := by rw [i64_id (by omega) (by omega)]; rfl
          have hleaf : fv.leaf = true ∧ fv.cells = [fv] := of.row.one
          have bleaf : bv.leaf = true ∧ bv.cells = [bv] := ob.row.one
          by_cases k3 : kindAt lays i = 3
          · simp only [k3, if_true] at of ob
            simp only [go_sem, reduceIte, Nat.reduceAdd, Nat.reduceSub, Nat.reduceMul, Nat.reducePow, Nat.reduceLT, Nat.reduceLeDiff, Nat.reduceEqDiff, Int.reduceAdd, Int.reduceSub, Int.reduceMul, Int.reduceNeg, Int.reducePow, Int.reduceLT, Int.reduceLE, Int.reduceEq, Int.reduceNe, Int.reduceToNat, Int.toNat_natCast, Nat.zero_add, Nat.add_zero, Nat.mul_one, Nat.one_mul, Bool.not_true, Bool.not_false, ne_eq, not_true_eq_false, not_false_eq_true, Bool.false_eq_true, joinA, hlt, c2, q1, q2, k3, cd]
            refine append_one' ob rfl (by decide) (bc_leaves _) rfl f' (by simp; unfold most; omega) fun v' h3 o3 f3 m3 w3 => ?_
            have gd3 := m3 d _ gd (ob.ne gd (by decide))
            have v3l := o3.row.one
            have st3 := st_val gd3 (off := 4) (by simp) v3l.1 v3l.2
            simp only [go_sem, reduceIte, Nat.reduceAdd, Nat.reduceSub, Nat.reduceMul, Nat.reducePow, Nat.reduceLT, Nat.reduceLeDiff, Nat.reduceEqDiff, Int.reduceAdd, Int.reduceSub, Int.reduceMul, Int.reduceNeg, Int.reducePow, Int.reduceLT, Int.reduceLE, Int.reduceEq, Int.reduceNe, Int.reduceToNat, Int.toNat_natCast, Nat.zero_add, Nat.add_zero, Nat.mul_one, Nat.one_mul, Bool.not_true, Bool.not_false, ne_eq, not_true_eq_false, not_false_eq_true, Bool.false_eq_true, st3, e4]
            refine ⟨n.toNat - (j + 1), by omega, j + 1, rfl, by omega, ⟨fv, v', by rw [H.get_same]; rfl, f3.set' hd, ?_, ?_⟩, rfl⟩
            · simp only [k3, if_true]
              refine of.keep fun c n' p e ob' hc => ?_
              have ne1 : c ≠ d := fun q => of.ne gd (by decide) n' p (by rw [e, q])
              rw [H.get_other _ _ ne1]
              refine m3 c _ hc fun n2 p2 e2 => ?_
              rcases of.2 with ⟨_, z⟩ | ⟨b', z1, _, z3⟩
              · rw [e] at z; cases z
              · rw [e] at z1; injection z1 with z1 _
                exact ob.ne (z1 ▸ z3) (by decide) n2 p2 e2
            · simp only [k3, if_true]
              have : Own h1 (h3.set d (.live ([AV.int .i64 (topR lays l), .int .i64 i, .int .i64 n, fv, bv].set 4 v') 89 true)) 5 1 v' (j + 1) (bc (List.replicate j 0) ++ [.int .u8 0]) := by
                have o3' : Own h1 h3 5 1 v' (j + 1) (bc (List.replicate j 0) ++ [.int .u8 0]) := by simpa using o3
                refine o3'.keep fun c n' p e ob' hc => ?_
                rw [H.get_other _ _ (fun q => o3'.ne gd3 (by decide) n' p (by rw [e, q]))]
                exact hc
              rw [List.replicate_succ', bc_append, List.length_append, List.length_replicate]
              exact this
          · simp only [k3, if_false] at of ob
            simp only [go_sem, reduceIte, Nat.reduceAdd, Nat.reduceSub, Nat.reduceMul, Nat.reducePow, Nat.reduceLT, Nat.reduceLeDiff, Nat.reduceEqDiff, Int.reduceAdd, Int.reduceSub, Int.reduceMul, Int.reduceNeg, Int.reducePow, Int.reduceLT, Int.reduceLE, Int.reduceEq, Int.reduceNe, Int.reduceToNat, Int.toNat_natCast, Nat.zero_add, Nat.add_zero, Nat.mul_one, Nat.one_mul, Bool.not_true, Bool.not_false, ne_eq, not_true_eq_false, not_false_eq_true, Bool.false_eq_true, joinA, hlt, c2, q1, q2, k3, cd]
            refine append_one' of rfl (by decide) (wc_leaves _) rfl f' (by simp; unfold most; omega) fun v' h3 o3 f3 m3 w3 => ?_
            have gd3 := m3 d _ gd (of.ne gd (by decide))
            have v3l := o3.row.one
            have st3 := st_val gd3 (off := 3) (by simp) v3l.1 v3l.2
            simp only [go_sem, reduceIte, Nat.reduceAdd, Nat.reduceSub, Nat.reduceMul, Nat.reducePow, Nat.reduceLT, Nat.reduceLeDiff, Nat.reduceEqDiff, Int.reduceAdd, Int.reduceSub, Int.reduceMul, Int.reduceNeg, Int.reducePow, Int.reduceLT, Int.reduceLE, Int.reduceEq, Int.reduceNe, Int.reduceToNat, Int.toNat_natCast, Nat.zero_add, Nat.add_zero, Nat.mul_one, Nat.one_mul, Bool.not_true, Bool.not_false, ne_eq, not_true_eq_false, not_false_eq_true, Bool.false_eq_true, st3, e4]
            refine ⟨n.toNat - (j + 1), by omega, j + 1, rfl, by omega, ⟨v', bv, by rw [H.get_same]; rfl, f3.set' hd, ?_, ?_⟩, rfl⟩
            · simp only [k3, if_false]
              have : Own h1 (h3.set d (.live ([AV.int .i64 (topR lays l), .int .i64 i, .int .i64 n, fv, bv].set 3 v') 89 true)) 25 1 v' (j + 1) (wc (List.replicate j 1) ++ [.int .u64 1]) := by
                have o3' : Own h1 h3 25 1 v' (j + 1) (wc (List.replicate j 1) ++ [.int .u64 1]) := by simpa using o3
                refine o3'.keep fun c n' p e ob' hc => ?_
                rw [H.get_other _ _ (fun q => o3'.ne gd3 (by decide) n' p (by rw [e, q]))]
                exact hc
              rw [List.replicate_succ', List.length_append, List.length_replicate]
              simpa [wc] using this
            · simp only [k3, if_false]
              refine ob.keep fun c n' p e ob' hc => ?_
              have ne1 : c ≠ d := fun q => ob.ne gd (by decide) n' p (by rw [e, q])
              rw [H.get_other _ _ ne1]
              refine m3 c _ hc fun n2 p2 e2 => ?_
              rcases ob.2 with ⟨_, z⟩ | ⟨b', z1, _, z3⟩
              · rw [e] at z; cases z
              · rw [e] at z1; injection z1 with z1 _
                exact of.ne (z1 ▸ z3) (by decide) n2 p2 e2
        · have : j = n.toNat := by omega
          subst this
          simp only [go_sem, reduceIte, Nat.reduceAdd, Nat.reduceSub, Nat.reduceMul, Nat.reducePow, Nat.reduceLT, Nat.reduceLeDiff, Nat.reduceEqDiff, Int.reduceAdd, Int.reduceSub, Int.reduceMul, Int.reduceNeg, Int.reducePow, Int.reduceLT, Int.reduceLE, Int.reduceEq, Int.reduceNe, Int.reduceToNat, Int.toNat_natCast, Nat.zero_add, Nat.add_zero, Nat.mul_one, Nat.one_mul, Bool.not_true, Bool.not_false, ne_eq, not_true_eq_false, not_false_eq_true, Bool.false_eq_true, hlt]
          exact hJ h' ⟨fv, bv, gd, f', of, ob⟩
  · simp only [sh102, go_sem, reduceIte, Nat.reduceAdd, Nat.reduceSub, Nat.reduceMul, Nat.reducePow, Nat.reduceLT, Nat.reduceLeDiff, Nat.reduceEqDiff, Int.reduceAdd, Int.reduceSub, Int.reduceMul, Int.reduceNeg, Int.reducePow, Int.reduceLT, Int.reduceLE, Int.reduceEq, Int.reduceNe, Int.reduceToNat, Int.toNat_natCast, Nat.zero_add, Nat.add_zero, Nat.mul_one, Nat.one_mul, Bool.not_true, Bool.not_false, ne_eq, not_true_eq_false, not_false_eq_true, Bool.false_eq_true, n53, he]
    exact hE he h (Fr.refl _ _)
end
end Go.Proofs.Ytljkkfcokpimkaa.X
set_option linter.unusedVariables false
set_option linter.unusedSimpArgs false
set_option maxRecDepth 20000
namespace Go.Proofs.Ytljkkfcokpimkaa.X
open Go Go.RowKit
def byteW (w : Int) (k : Nat) : Int := w / 2 ^ (8 * k) % 256
def putW (w : Int) (k : Nat) (c : Int) : Int := w - w / 2 ^ (8 * k) % 256 * 2 ^ (8 * k) + c * 2 ^ (8 * k)
theorem cut8 {w : Int} {k : Nat} (h0 : 0 ≤ w) (h1 : w < 18446744073709551616) (hk : k < 8) : bits .andNot .u64 w (255 * 2 ^ (8 * k)) = w - w / 2 ^ (8 * k) % 256 * 2 ^ (8 * k) := by
  obtain ⟨n, rfl⟩ := Int.eq_ofNat_of_zero_le h0
  have h := andNot_nat n (8 * k) 8 (by omega) (by omega)
  have e : (((2 ^ 8 - 1) * 2 ^ (8 * k) : Nat) : Int) = 255 * 2 ^ (8 * k) := by push_cast; rfl
  rw [e] at h
  rw [h]
  have hs : n / 2 ^ (8 * k) % 2 ^ 8 * 2 ^ (8 * k) ≤ n := Nat.le_trans (Nat.mul_le_mul_right _ (Nat.mod_le _ _)) (Nat.div_mul_le_self _ _)
  rw [Int.ofNat_sub hs]
  push_cast
  rfl
theorem put8 {w : Int} {k : Nat} {c : Nat} (h0 : 0 ≤ w) (h1 : w < 18446744073709551616) (hk : k < 8) (hc : c < 256) : bits .or .u64 (bits .andNot .u64 w (255 * 2 ^ (8 * k))) (c * 2 ^ (8 * k)) = putW w k c := by
  rw [cut8 h0 h1 hk]
  obtain ⟨n, rfl⟩ := Int.eq_ofNat_of_zero_le h0
  have hs : n / 2 ^ (8 * k) % 2 ^ 8 * 2 ^ (8 * k) ≤ n := Nat.le_trans (Nat.mul_le_mul_right _ (Nat.mod_le _ _)) (Nat.div_mul_le_self _ _)
  have hz : (n - n / 2 ^ (8 * k) % 2 ^ 8 * 2 ^ (8 * k)) / 2 ^ (8 * k) % 2 ^ 8 = 0 := by
    have hc : n - n / 2 ^ (8 * k) % 2 ^ 8 * 2 ^ (8 * k) = 2 ^ (8 * k) * (2 ^ 8 * (n / 2 ^ (8 * k) / 2 ^ 8)) + n % 2 ^ (8 * k) := by
      have h1 := Nat.div_add_mod n (2 ^ (8 * k))
      have h2 := Nat.div_add_mod (n / 2 ^ (8 * k)) (2 ^ 8)
      have h3 : 2 ^ (8 * k) * (n / 2 ^ (8 * k)) = 2 ^ (8 * k) * (2 ^ 8 * (n / 2 ^ (8 * k) / 2 ^ 8)) + 2 ^ (8 * k) * (n / 2 ^ (8 * k) % 2 ^ 8) := by
        rw [← Nat.mul_add, h2]
      rw [Nat.mul_comm (n / 2 ^ (8 * k) % 2 ^ 8)]
      omega
    rw [hc, Nat.mul_add_div (Nat.two_pow_pos _), Nat.div_eq_of_lt (Nat.mod_lt _ (Nat.two_pow_pos _)), Nat.add_zero, Nat.mul_mod_right]
  have h := or_nat (n - n / 2 ^ (8 * k) % 2 ^ 8 * 2 ^ (8 * k)) c (8 * k) 8 (by omega) (by omega) (by omega) hz
  unfold putW
  rw [Int.natCast_add, Int.ofNat_sub hs] at h
  push_cast at h ⊢
  exact h
theorem byteW_range (w : Int) (k : Nat) : 0 ≤ byteW w k ∧ byteW w k < 256 := by unfold byteW; omega
theorem u8_byte (w : Int) (k : Nat) : IntKind.u8.wrap (w / 2 ^ (8 * k)) = byteW w k := by
  simp [IntKind.wrap, IntKind.bits, IntKind.signed, byteW]
section
variable {h : H} {b bw bd : Nat} {B : List Nat} {s : Hs} {os : List Ob}
theorem shape_a (hh : HeapAt h b bw bd B s) (A : Abs s os) (a : Int) (K : AV → H → Prop) : C 81 [.ptr b 0, .int .i64 a] h K =
    K (match findO os a with | some o => .tup [.int .i64 o.sh, .int .i64 0] | none => .tup [.int .i64 0, .int .i64 1]) h := by
  refine callA_eq (run81 ?_) K
  obtain ⟨lv, cc, r, _⟩ := hh.cells
  cases hf : findO os a with
  | none => simp only [sh81, go_sem, reduceIte, Nat.reduceAdd, Nat.reduceSub, Nat.reduceMul, Nat.reducePow, Nat.reduceLT, Nat.reduceLeDiff, Nat.reduceEqDiff, Int.reduceAdd, Int.reduceSub, Int.reduceMul, Int.reduceNeg, Int.reducePow, Int.reduceLT, Int.reduceLE, Int.reduceEq, Int.reduceNe, Int.reduceToNat, Int.toNat_natCast, Nat.zero_add, Nat.add_zero, Nat.mul_one, Nat.one_mul, Bool.not_true, Bool.not_false, ne_eq, not_true_eq_false, not_false_eq_true, Bool.false_eq_true, is_a hh A, hf, Option.isSome_none]
  | some o =>
    obtain ⟨t1, t2, t3, t4, t5, t6, t7, t8, t9, t10, t11⟩ := A.at hf
    have g3 := A.good.top
    have hp := row_pos o
    have i1 : a < (s.words.length : Nat) := by omega
    have wr := A.good.wdr a
    have sc : ∀ (h : H) K, C 33 [.int .u64 (s.wd a)] h K = K (.int .i64 o.sh) h := fun h K => by rw [shape_c wr.1 wr.2]; unfold shapeOf at t2; rw [t2]
    simp only [sh81, go_sem, reduceIte, Nat.reduceAdd, Nat.reduceSub, Nat.reduceMul, Nat.reducePow, Nat.reduceLT, Nat.reduceLeDiff, Nat.reduceEqDiff, Int.reduceAdd, Int.reduceSub, Int.reduceMul, Int.reduceNeg, Int.reducePow, Int.reduceLT, Int.reduceLE, Int.reduceEq, Int.reduceNe, Int.reduceToNat, Int.toNat_natCast, Nat.zero_add, Nat.add_zero, Nat.mul_one, Nat.one_mul, Bool.not_true, Bool.not_false, ne_eq, not_true_eq_false, not_false_eq_true, Bool.false_eq_true, is_a hh A, hf, Option.isSome_some, cc, t8, i1, hh.word t8 i1, sc]
theorem len_a (hh : HeapAt h b bw bd B s) (A : Abs s os) (a : Int) (K : AV → H → Prop) : C 72 [.ptr b 0, .int .i64 a] h K =
    K (match findO os a with | some o => .tup [.int .i64 o.n, .int .i64 0] | none => .tup [.int .i64 0, .int .i64 1]) h := by
  refine callA_eq (run72 ?_) K
  obtain ⟨lv, cc, r, _⟩ := hh.cells
  cases hf : findO os a with
  | none => simp only [sh72, go_sem, reduceIte, Nat.reduceAdd, Nat.reduceSub, Nat.reduceMul, Nat.reducePow, Nat.reduceLT, Nat.reduceLeDiff, Nat.reduceEqDiff, Int.reduceAdd, Int.reduceSub, Int.reduceMul, Int.reduceNeg, Int.reducePow, Int.reduceLT, Int.reduceLE, Int.reduceEq, Int.reduceNe, Int.reduceToNat, Int.toNat_natCast, Nat.zero_add, Nat.add_zero, Nat.mul_one, Nat.one_mul, Bool.not_true, Bool.not_false, ne_eq, not_true_eq_false, not_false_eq_true, Bool.false_eq_true, is_a hh A, hf, Option.isSome_none]
  | some o =>
    obtain ⟨t1, t2, t3, t4, t5, t6, t7, t8, t9, t10, t11⟩ := A.at hf
    have g3 := A.good.top
    have hp := row_pos o
    have i1 : a < (s.words.length : Nat) := by omega
    have wr := A.good.wdr a
    have lc' : ∀ (h : H) K, C 35 [.int .u64 (s.wd a)] h K = K (.int .i64 o.n) h := fun h K => by rw [len_c wr.1 wr.2]; unfold lenOf at t3; rw [t3]
    simp only [sh72, go_sem, reduceIte, Nat.reduceAdd, Nat.reduceSub, Nat.reduceMul, Nat.reducePow, Nat.reduceLT, Nat.reduceLeDiff, Nat.reduceEqDiff, Int.reduceAdd, Int.reduceSub, Int.reduceMul, Int.reduceNeg, Int.reducePow, Int.reduceLT, Int.reduceLE, Int.reduceEq, Int.reduceNe, Int.reduceToNat, Int.toNat_natCast, Nat.zero_add, Nat.add_zero, Nat.mul_one, Nat.one_mul, Bool.not_true, Bool.not_false, ne_eq, not_true_eq_false, not_false_eq_true, Bool.false_eq_true, is_a hh A, hf, Option.isSome_some, cc, t8, i1, hh.word t8 i1, lc']
theorem setByte_a (hh : HeapAt h b bw bd B s) (A : Abs s os) {a i : Int} {c : Nat} (hc : c < 256) (K : AV → H → Prop) : C 65 [.ptr b 0, .int .i64 a, .int .i64 i, .int .u8 (c : Nat)] h K =
    K (.int .i64 (if hasO s.lays os a i true then 0 else 1)) (if hasO s.lays os a i true then h.set bw (.live (wc (s.put (a + 1 + i / 8) (putW (s.wd (a + 1 + i / 8)) (i % 8).toNat c)).words) 25 true) else h) := by
  refine callA_eq (run65 ?_) K
  obtain ⟨lv, cc, r, _⟩ := hh.cells
  cases hq : hasO s.lays os a i true with
  | false => simp only [sh65, go_sem, reduceIte, Nat.reduceAdd, Nat.reduceSub, Nat.reduceMul, Nat.reducePow, Nat.reduceLT, Nat.reduceLeDiff, Nat.reduceEqDiff, Int.reduceAdd, Int.reduceSub, Int.reduceMul, Int.reduceNeg, Int.reducePow, Int.reduceLT, Int.reduceLE, Int.reduceEq, Int.reduceNe, Int.reduceToNat, Int.toNat_natCast, Nat.zero_add, Nat.add_zero, Nat.mul_one, Nat.one_mul, Bool.not_true, Bool.not_false, ne_eq, not_true_eq_false, not_false_eq_true, Bool.false_eq_true, has_a hh A, hq]
  | true =>
    obtain ⟨o, hf, k1, k2, k3⟩ := hasO_some hq
    obtain ⟨t1, t2, t3, t4, t5, t6, t7, t8, t9, t10, t11⟩ := A.at hf
    have g3 := A.good.top; have g1 := A.good.wlen
    rw [if_pos (by simpa using k1)] at t10
    have q1 : i.tdiv 8 = i / 8 := Int.tdiv_eq_ediv_of_nonneg k2
    have q2 : i.tmod 8 = i % 8 := Int.tmod_eq_emod_of_nonneg k2
    have e0 : IntKind.i64.wrap (i / 8) = i / 8 := i64_id (by omega) (by omega)
    have e1 : IntKind.i64.wrap (IntKind.i64.wrap (a + 1) + i / 8) = a + 1 + i / 8 := by rw [i64_id (n := a + 1) (by omega) (by omega), i64_id (by omega) (by omega)]
    have e2 : IntKind.i64.wrap (i % 8 * 8) = i % 8 * 8 := i64_id (by omega) (by omega)
    have e3 : (i % 8 * 8).toNat = 8 * (i % 8).toNat := by omega
    have b0 : 0 ≤ i % 8 * 8 := by omega
    have b1 : i % 8 * 8 ≤ 64 := by omega
    have i0 : 0 ≤ a + 1 + i / 8 := by omega
    have i1 : a + 1 + i / 8 < (s.words.length : Nat) := by omega
    have k8 : (i % 8).toNat < 8 := by omega
    have hp : ∀ k : Nat, k < 8 → (0 : Int) ≤ 2 ^ (8 * k) ∧ (2 : Int) ^ (8 * k) ≤ 72057594037927936 := by decide
    have hp := hp _ k8
    have e4 : IntKind.u64.wrap (255 * 2 ^ (8 * (i % 8).toNat)) = 255 * 2 ^ (8 * (i % 8).toNat) := u64_id (by omega) (by omega)
    have e5 : IntKind.u64.wrap ((c : Int) * 2 ^ (8 * (i % 8).toNat)) = c * 2 ^ (8 * (i % 8).toNat) := by
      have h1 : (c : Int) * 2 ^ (8 * (i % 8).toNat) ≤ 255 * 2 ^ (8 * (i % 8).toNat) := Int.mul_le_mul_of_nonneg_right (by omega) hp.1
      have h2 : 0 ≤ (c : Int) * 2 ^ (8 * (i % 8).toNat) := Int.mul_nonneg (by omega) hp.1
      exact u64_id h2 (by omega)
    have e6 : IntKind.u64.wrap (c : Int) = c := u64_id (by omega) (by omega)
    have wr := A.good.wdr (a + 1 + i / 8)
    simp only [sh65, go_sem, reduceIte, Nat.reduceAdd, Nat.reduceSub, Nat.reduceMul, Nat.reducePow, Nat.reduceLT, Nat.reduceLeDiff, Nat.reduceEqDiff, Int.reduceAdd, Int.reduceSub, Int.reduceMul, Int.reduceNeg, Int.reducePow, Int.reduceLT, Int.reduceLE, Int.reduceEq, Int.reduceNe, Int.reduceToNat, Int.toNat_natCast, Nat.zero_add, Nat.add_zero, Nat.mul_one, Nat.one_mul, Bool.not_true, Bool.not_false, ne_eq, not_true_eq_false, not_false_eq_true, Bool.false_eq_true, has_a hh A, hq, cc, q1, q2, e0, e1, e2, e3, i0, i1, hh.word i0 i1, b0, b1, e4, e5, e6, put8 wr.1 wr.2 k8 hc, hh.st_word i0 i1]
end
end Go.Proofs.Ytljkkfcokpimkaa.X
set_option linter.unusedVariables false
set_option linter.unusedSimpArgs false
set_option maxRecDepth 20000
namespace Go.Proofs.Ytljkkfcokpimkaa.X
open Go Go.RowKit
theorem byteW_put (w : Int) {k k' : Nat} (c : Nat) (hk : k < 8) (hk' : k' < 8) (hc : c < 256) : byteW (putW w k c) k' = if k = k' then (c : Int) else byteW w k' := by
  unfold byteW putW
  have h1 : k = 0 ∨ k = 1 ∨ k = 2 ∨ k = 3 ∨ k = 4 ∨ k = 5 ∨ k = 6 ∨ k = 7 := by omega
  have h2 : k' = 0 ∨ k' = 1 ∨ k' = 2 ∨ k' = 3 ∨ k' = 4 ∨ k' = 5 ∨ k' = 6 ∨ k' = 7 := by omega
  rcases h1 with rfl | rfl | rfl | rfl | rfl | rfl | rfl | rfl <;> rcases h2 with rfl | rfl | rfl | rfl | rfl | rfl | rfl | rfl <;> simp only [Nat.reduceMul, Int.reducePow, Nat.reduceEqDiff, if_true, if_false, reduceIte] <;> omega
theorem putW_range {w : Int} {k c : Nat} (h0 : 0 ≤ w) (h1 : w < 18446744073709551616) (hk : k < 8) (hc : c < 256) : 0 ≤ putW w k c ∧ putW w k c < 18446744073709551616 := by
  rw [← put8 h0 h1 hk hc]
  show 0 ≤ IntKind.u64.wrap _ ∧ IntKind.u64.wrap _ < _
  rw [u64_wrap]
  omega
theorem byteW_zero (k : Nat) : byteW 0 k = 0 := by simp [byteW]
def Packs (bs : List Nat) (body : List Int) : Prop := body.length = (bs.length + 7) / 8 ∧ ∀ i, i < 8 * body.length → byteW (body.getD (i / 8) 0) (i % 8) = ((bs.getD i 0 : Nat) : Int)
theorem Packs.set {bs : List Nat} {body : List Int} (p : Packs bs body) {i c : Nat} (hi : i < bs.length) (hc : c < 256) : Packs (bs.set i c) (body.set (i / 8) (putW (body.getD (i / 8) 0) (i % 8) c)) := by
  obtain ⟨p1, p2⟩ := p
  refine ⟨by simpa using p1, fun j hj => ?_⟩
  rw [List.length_set] at hj
  have hb : i / 8 < body.length := by omega
  by_cases he : i / 8 = j / 8
  · have e1 : (body.set (i / 8) (putW (body.getD (i / 8) 0) (i % 8) c)).getD (j / 8) 0 = putW (body.getD (i / 8) 0) (i % 8) c := by
      rw [← he, List.getD_eq_getElem?_getD, List.getElem?_set]; simp [hb]
    rw [e1, byteW_put _ _ (by omega) (by omega) hc]
    by_cases hij : i = j
    · subst hij
      rw [if_pos rfl, List.getD_eq_getElem?_getD, List.getElem?_set]; simp [hi]
    · rw [if_neg (by omega), he, p2 j hj, List.getD_eq_getElem?_getD, List.getD_eq_getElem?_getD, List.getElem?_set, if_neg hij]
  · have e1 : (body.set (i / 8) (putW (body.getD (i / 8) 0) (i % 8) c)).getD (j / 8) 0 = body.getD (j / 8) 0 := by
      rw [List.getD_eq_getElem?_getD, List.getElem?_set, if_neg he, ← List.getD_eq_getElem?_getD]
    have hij : i ≠ j := fun q => he (by rw [q])
    rw [e1, p2 j hj, List.getD_eq_getElem?_getD, List.getD_eq_getElem?_getD, List.getElem?_set, if_neg hij]
theorem packs_zero (n : Nat) : Packs (List.replicate n 0) (List.replicate ((n + 7) / 8) 0) := by
  refine ⟨by simp, fun i hi => ?_⟩
  have e1 : ∀ (m j : Nat), (List.replicate m (0 : Int)).getD j 0 = 0 := fun m j => by
    rw [List.getD_eq_getElem?_getD, List.getElem?_replicate]; split <;> rfl
  have e2 : ∀ (m j : Nat), (List.replicate m (0 : Nat)).getD j 0 = 0 := fun m j => by
    rw [List.getD_eq_getElem?_getD, List.getElem?_replicate]; split <;> rfl
  rw [e1, e2, byteW_zero]; rfl
def RelO (lays : List (Int × Int)) (o : Ob) (r : RO) : Prop :=
  r.sh = o.sh ∧ r.n = o.n ∧ if kindAt lays o.sh = 3 then r.fs = [] ∧ (r.bs.length : Int) = o.n ∧ Packs r.bs o.body else r.fs = o.body ∧ r.bs = [] ∧ (r.fs.length : Int) = o.n
def Rel (lays : List (Int × Int)) : Nat → List Ob → List RV → Prop
  | _, [], [] => True
  | p, o :: os, x :: l => x.r.a = p ∧ RelO lays o x.r ∧ Rel lays (p + o.row.length) os l
  | _, _, _ => False
theorem Rel.len {lays : List (Int × Int)} : ∀ {p : Nat} {os : List Ob} {l : List RV}, Rel lays p os l → os.length = l.length
  | _, [], [], _ => rfl
  | _, [], _ :: _, h => h.elim
  | _, _ :: _, [], h => h.elim
  | _, o :: os, x :: l, h => by simp [Rel.len h.2.2]
theorem Rel.find {lays : List (Int × Int)} : ∀ {p : Nat} {os : List Ob} {l : List RV}, Rel lays p os l → ∀ a : Int,
    (findO os (a - p) = none ∧ atR l a = none) ∨ ∃ o x, findO os (a - p) = some o ∧ atR l a = some x ∧ RelO lays o x.r ∧ x.r.a = a
  | _, [], [], _, a => .inl ⟨rfl, rfl⟩
  | _, [], _ :: _, h, _ => h.elim
  | _, _ :: _, [], h, _ => h.elim
  | p, o :: os, x :: l, h, a => by
    obtain ⟨h1, h2, h3⟩ := h
    by_cases ha : a = p
    · right
      refine ⟨o, x, ?_, ?_, h2, by omega⟩
      · rw [findO, if_pos (by omega)]
      · simp [atR, h1, ha]
    · have := h3.find a
      have e1 : findO (o :: os) (a - p) = findO os (a - ((p + o.row.length : Nat) : Int)) := by
        rw [findO, if_neg (by omega)]; congr 1; omega
      have e2 : atR (x :: l) a = atR l a := by
        have : ¬ x.r.a = a := by omega
        simp [atR, this]
      rw [e1, e2]
      exact this
theorem Rel.find0 {lays : List (Int × Int)} {os : List Ob} {l : List RV} (r : Rel lays 0 os l) (a : Int) :
    (findO os a = none ∧ atR l a = none) ∨ ∃ o x, findO os a = some o ∧ atR l a = some x ∧ RelO lays o x.r ∧ x.r.a = a := by
  have := r.find a
  simpa using this
theorem Rel.has {lays : List (Int × Int)} {os : List Ob} {l : List RV} (r : Rel lays 0 os l) (a i : Int) : hasO lays os a i false = hasF l a i ∧ hasO lays os a i true = hasB l a i := by
  unfold hasO hasF hasB
  rcases r.find0 a with ⟨h1, h2⟩ | ⟨o, x, h1, h2, h3, h4⟩
  · rw [h1, h2]; exact ⟨rfl, rfl⟩
  · rw [h1, h2]
    obtain ⟨_, _, h3⟩ := h3
    by_cases hk : kindAt lays o.sh = 3
    · rw [if_pos hk] at h3
      simp only [hk, h3.1, decide_true, ← h3.2.1, List.length_nil]
      constructor
      · have : ¬ (0 ≤ i ∧ i < ((0 : Nat) : Int)) := by omega
        simp
      · simp
    · rw [if_neg hk] at h3
      simp only [hk, h3.2.1, decide_false, ← h3.2.2, List.length_nil]
      constructor
      · simp
      · simp
theorem Rel.fits {lays : List (Int × Int)} {os : List Ob} {l : List RV} (r : Rel lays 0 os l) (w : Int) : fitsO os w = fitsR l w := by
  unfold fitsO fitsR
  rcases r.find0 (w / 2) with ⟨h1, h2⟩ | ⟨o, x, h1, h2, h3, h4⟩
  · rw [h1, h2]; rfl
  · rw [h1, h2]; rfl
theorem Rel.top {s : Hs} {os : List Ob} (A : Abs s os) {l : List RV} (r : Rel s.lays 0 os l) : topR s.lays l = s.top := by
  rw [A.top]
  have each := A.each
  have : ∀ (p : Nat) (os : List Ob) (l : List RV), (∀ o ∈ os, needN s.lays o.sh o.n = ((o.row.length : Int), 0)) → Rel s.lays p os l → topR s.lays l = (rowOf os).length := by
    intro p os
    induction os generalizing p with
    | nil =>
      intro l _ h
      cases l with
      | nil => rfl
      | cons x l => exact h.elim
    | cons o os ih =>
      intro l he h
      cases l with
      | nil => exact h.elim
      | cons x l =>
        obtain ⟨h1, h2, h3⟩ := h
        have e := ih _ l (fun o ho => he o (by simp [ho])) h3
        have e2 := he o (by simp)
        unfold topR at e ⊢
        rw [List.map_cons, List.sum_cons, e, h2.1, h2.2.1, e2, rowOf_cons, List.length_append]
        simp
  exact this 0 os l each r
theorem Rel.setF {lays : List (Int × Int)} : ∀ {p : Nat} {os : List Ob} {l : List RV}, Rel lays p os l → ∀ (a : Int) (i : Nat) (w : Int) (o : Ob), findO os (a - p) = some o → kindAt lays o.sh ≠ 3 →
    Rel lays p (setO os (a - p) i w) (modR l a (·.setF i w))
  | _, [], [], _, a, i, w, o, h, _ => by cases h
  | _, [], _ :: _, h, _, _, _, _, _, _ => h.elim
  | _, _ :: _, [], h, _, _, _, _, _, _ => h.elim
  | p, y :: os, x :: l, h, a, i, w, o, hf, hk => by
    obtain ⟨h1, h2, h3⟩ := h
    by_cases ha : a = p
    · rw [findO, if_pos (by omega)] at hf
      injection hf with hf; subst hf
      rw [setO, if_pos (by omega), modR, if_pos (by omega)]
      refine ⟨h1, ⟨h2.1, h2.2.1, ?_⟩, ?_⟩
      · have := h2.2.2
        rw [if_neg hk] at this
        show if kindAt lays y.sh = 3 then _ else _
        rw [if_neg hk]
        exact ⟨by simp [RV.setF, this.1], this.2.1, by simpa [RV.setF] using this.2.2⟩
      · have : ({ y with body := y.body.set i w } : Ob).row.length = y.row.length := by simp [Ob.row]
        rw [this]; exact h3
    · have hne : ¬ x.r.a = a := by omega
      rw [findO, if_neg (by omega)] at hf
      rw [setO, if_neg (by omega), modR, if_neg hne]
      have e : a - (p : Int) - y.row.length = a - ((p + y.row.length : Nat) : Int) := by omega
      rw [e] at hf ⊢
      exact ⟨h1, h2, h3.setF a i w o hf hk⟩
theorem Rel.setB {lays : List (Int × Int)} : ∀ {p : Nat} {os : List Ob} {l : List RV}, Rel lays p os l → ∀ (a : Int) (i c : Nat) (o : Ob), findO os (a - p) = some o → kindAt lays o.sh = 3 → (i : Int) < o.n → c < 256 →
    Rel lays p (setO os (a - p) (i / 8) (putW (o.body.getD (i / 8) 0) (i % 8) c)) (modR l a (·.setB i c))
  | _, [], [], _, a, i, w, o, h, _, _, _ => by cases h
  | _, [], _ :: _, h, _, _, _, _, _, _, _, _ => h.elim
  | _, _ :: _, [], h, _, _, _, _, _, _, _, _ => h.elim
  | p, y :: os, x :: l, h, a, i, c, o, hf, hk, hi, hc => by
    obtain ⟨h1, h2, h3⟩ := h
    by_cases ha : a = p
    · rw [findO, if_pos (by omega)] at hf
      injection hf with hf; subst hf
      rw [setO, if_pos (by omega), modR, if_pos (by omega)]
      refine ⟨h1, ⟨h2.1, h2.2.1, ?_⟩, ?_⟩
      · have := h2.2.2
        rw [if_pos hk] at this
        show if kindAt lays y.sh = 3 then _ else _
        rw [if_pos hk]
        exact ⟨this.1, by simpa [RV.setB] using this.2.1, this.2.2.set (by omega) hc⟩
      · have : ({ y with body := y.body.set (i / 8) (putW (y.body.getD (i / 8) 0) (i % 8) c) } : Ob).row.length = y.row.length := by simp [Ob.row]
        rw [this]; exact h3
    · have hne : ¬ x.r.a = a := by omega
      rw [findO, if_neg (by omega)] at hf
      rw [setO, if_neg (by omega), modR, if_neg hne]
      have e : a - (p : Int) - y.row.length = a - ((p + y.row.length : Nat) : Int) := by omega
      rw [e] at hf ⊢
      exact ⟨h1, h2, h3.setB a i c o hf hk hi hc⟩
theorem Rel.snoc {lays : List (Int × Int)} : ∀ {p : Nat} {os : List Ob} {l : List RV}, Rel lays p os l → ∀ (o : Ob) (x : RV), x.r.a = ((p + (rowOf os).length : Nat) : Int) → RelO lays o x.r → Rel lays p (os ++ [o]) (l ++ [x])
  | p, [], [], _, o, x, ha, ho => ⟨by simpa [rowOf] using ha, ho, trivial⟩
  | _, [], _ :: _, h, _, _, _, _ => h.elim
  | _, _ :: _, [], h, _, _, _, _ => h.elim
  | p, y :: os, z :: l, h, o, x, ha, ho => by
    obtain ⟨h1, h2, h3⟩ := h
    refine ⟨h1, h2, h3.snoc o x ?_ ho⟩
    rw [ha, rowOf_cons, List.length_append]; congr 1; omega
theorem newRO_rel {lays : List (Int × Int)} {a i n : Int} (hn : 0 ≤ n) : RelO lays (newOb lays i n) (newRO lays a i n) := by
  refine ⟨rfl, rfl, ?_⟩
  show if kindAt lays i = 3 then _ else _
  by_cases hk : kindAt lays i = 3
  · rw [if_pos hk]
    have e : ((n + 7) / 8).toNat = (n.toNat + 7) / 8 := by omega
    simp only [newRO, newOb, hk, if_true, e]
    exact ⟨trivial, by simp; omega, packs_zero _⟩
  · rw [if_neg hk]
    simp only [newRO, newOb, hk, if_false]
    exact ⟨trivial, trivial, by simp; omega⟩
end Go.Proofs.Ytljkkfcokpimkaa.X
set_option linter.unusedVariables false
set_option linter.unusedSimpArgs false
set_option maxRecDepth 20000
namespace Go.Proofs.Ytljkkfcokpimkaa.X
open Go Go.RowKit
def fitAll (lays : List (Int × Int)) (os : List Ob) : Prop := ∀ o ∈ os, kindAt lays o.sh ≠ 3 → ∀ w ∈ o.body, fitsO os w = true
theorem fitAll_snoc {lays : List (Int × Int)} {os : List Ob} (f : fitAll lays os) (i n : Int) : fitAll lays (os ++ [newOb lays i n]) := by
  intro o ho hk w hw
  rcases List.mem_append.1 ho with ho | ho
  · have := f o ho hk w hw
    unfold fitsO at this ⊢
    rw [findO_append]
    split
    · simp
    · exact this
  · simp at ho; subst ho
    unfold newOb at hw hk
    rw [if_neg hk] at hw
    have := List.eq_of_mem_replicate hw
    subst this
    simp [fitsO]
theorem setO_mem2 : ∀ (os : List Ob) (a : Int) (i : Nat) (w : Int) (o : Ob), o ∈ setO os a i w → o ∈ os ∨ ∃ o', findO os a = some o' ∧ o = { o' with body := o'.body.set i w }
  | [], _, _, _, _, h => by cases h
  | x :: os, a, i, w, o, h => by
    rw [setO] at h
    rw [findO]
    split at h
    · rename_i h0
      rw [if_pos h0]
      rcases List.mem_cons.1 h with rfl | h
      · exact .inr ⟨x, rfl, rfl⟩
      · exact .inl (by simp [h])
    · rename_i h0
      rw [if_neg h0]
      rcases List.mem_cons.1 h with rfl | h
      · exact .inl (by simp)
      · rcases setO_mem2 os _ i w o h with q | q
        · exact .inl (by simp [q])
        · exact .inr q
theorem fitAll_set {lays : List (Int × Int)} {os : List Ob} (f : fitAll lays os) {a : Int} {i : Nat} {w : Int} {o : Ob} (hf : findO os a = some o) (hw : kindAt lays o.sh ≠ 3 → fitsO os w = true) : fitAll lays (setO os a i w) := by
  have e : ∀ x, fitsO (setO os a i w) x = fitsO os x := fun x => by unfold fitsO; rw [setO_find]; cases findO os (x / 2) <;> rfl
  intro y hy hk x hx
  rw [e]
  rcases setO_mem2 os a i w y hy with q | ⟨o', q1, q2⟩
  · exact f y q hk x hx
  · rw [hf] at q1; injection q1 with q1; subst q1; subst q2
    rcases List.mem_or_eq_of_mem_set hx with hx | rfl
    · exact f o (by obtain ⟨pre, post, rfl, _⟩ := findO_split os a o hf; simp) hk x hx
    · exact hw hk
structure Both (h0 h : H) (b bw bd : Nat) (B : List Nat) (s : Hs) (os : List Ob) (bx : Nat) (BL : List Nat) (l : List RV) : Prop where
  hh : HeapAt h b bw bd B s
  A : Abs s os
  R : RefAt h0 h bx s.words.length s.lays BL l
  r : Rel s.lays 0 os l
  ap : ∀ c ∈ b :: bw :: bd :: B, c ∉ blocksR bx BL l
  new : ∀ c ∈ b :: bw :: bd :: B, h0.get c = none
  fit : fitAll s.lays os
def Two (h0 h : H) (b bx : Nat) (n : Nat) (lays : List (Int × Int)) (l : List RV) : Prop :=
  ∃ bw bd B s os BL, Both h0 h b bw bd B s os bx BL l ∧ s.words.length = n ∧ s.lays = lays
theorem Both.keep0 {h0 h h' : H} {b bw bd : Nat} {B : List Nat} {s : Hs} {os : List Ob} {bx : Nat} {BL : List Nat} {l : List RV} (t : Both h0 h b bw bd B s os bx BL l) (f : Fr [] h h') : Both h0 h' b bw bd B s os bx BL l :=
  ⟨t.hh.fr0 f, t.A, t.R.keep0 f, t.r, t.ap, t.new, t.fit⟩
theorem Two.keep0 {h0 h h' : H} {b bx n : Nat} {lays : List (Int × Int)} {l : List RV} (t : Two h0 h b bx n lays l) (f : Fr [] h h') : Two h0 h' b bx n lays l := by
  obtain ⟨bw, bd, B, s, os, BL, t, e⟩ := t
  exact ⟨bw, bd, B, s, os, BL, t.keep0 f, e⟩
theorem Rel.pos {lays : List (Int × Int)} : ∀ {p : Nat} {os : List Ob} {l : List RV}, Rel lays p os l → ∀ x ∈ l, (p : Int) ≤ x.r.a ∧ x.r.a ≤ ((p + (rowOf os).length : Nat) : Int)
  | _, [], [], _, x, hx => by cases hx
  | _, [], _ :: _, h, _, _ => h.elim
  | _, _ :: _, [], h, _, _ => h.elim
  | p, o :: os, y :: l, h, x, hx => by
    obtain ⟨h1, h2, h3⟩ := h
    rw [rowOf_cons, List.length_append]
    rcases List.mem_cons.1 hx with rfl | hx
    · omega
    · have := h3.pos x hx
      omega
theorem modR_length (l : List RV) (a : Int) (f : RV → RV) : (modR l a f).length = l.length := by
  induction l with
  | nil => rfl
  | cons x l ih =>
    rw [modR]; split
    · rfl
    · simp [ih]
theorem modR_blocks (bx : Nat) (BL : List Nat) (l : List RV) (a : Int) (f : RV → RV) (hf : ∀ x, (f x).blocks = x.blocks) : blocksR bx BL (modR l a f) = blocksR bx BL l := by
  have : (modR l a f).flatMap RV.blocks = l.flatMap RV.blocks := by
    induction l with
    | nil => rfl
    | cons x l ih =>
      rw [modR]; split
      · simp [hf]
      · simp [ih]
  unfold blocksR; rw [this]
section
variable {h0 h : H} {b bw bd bx : Nat} {B BL : List Nat} {s : Hs} {os : List Ob} {l : List RV}
theorem Both.range (t : Both h0 h b bw bd B s os bx BL l) : ∀ x ∈ l, 0 ≤ x.r.a ∧ x.r.a ≤ 70000 := fun x hx => by
  have h1 := t.r.pos x hx
  have h2 := t.A.top
  have h3 := t.A.good.top
  have h4 := t.A.good.wlen
  omega
theorem place_c {Lv : AV} (o : SlV h 89 5 Lv BL l.length (cellsR l)) (hr : ∀ x ∈ l, 0 ≤ x.r.a ∧ x.r.a ≤ 70000) (hl : l.length ≤ 1000) {a : Int} (a0 : -9223372036854775808 ≤ a) (a1 : a ≤ 9223372036854775807) {K : AV → H → Prop}
    (hK : ∀ p : Int, -9223372036854775808 ≤ p → p ≤ 9223372036854775807 → K (.int .i64 p) h) : C 61 [Lv, .int .i64 a] h K := by
  refine run61 ?_
  by_cases h1 : 0 ≤ a
  · simp only [sh61, go_sem, reduceIte, Nat.reduceAdd, Nat.reduceSub, Nat.reduceMul, Nat.reducePow, Nat.reduceLT, Nat.reduceLeDiff, Nat.reduceEqDiff, Int.reduceAdd, Int.reduceSub, Int.reduceMul, Int.reduceNeg, Int.reducePow, Int.reduceLT, Int.reduceLE, Int.reduceEq, Int.reduceNe, Int.reduceToNat, Int.toNat_natCast, Nat.zero_add, Nat.add_zero, Nat.mul_one, Nat.one_mul, Bool.not_true, Bool.not_false, ne_eq, not_true_eq_false, not_false_eq_true, Bool.false_eq_true, h1]; exact hK a a0 a1
  · by_cases hn : (l.length : Int) = 0
    · simp only [sh61, go_sem, reduceIte, Nat.reduceAdd, Nat.reduceSub, Nat.reduceMul, Nat.reducePow, Nat.reduceLT, Nat.reduceLeDiff, Nat.reduceEqDiff, Int.reduceAdd, Int.reduceSub, Int.reduceMul, Int.reduceNeg, Int.reducePow, Int.reduceLT, Int.reduceLE, Int.reduceEq, Int.reduceNe, Int.reduceToNat, Int.toNat_natCast, Nat.zero_add, Nat.add_zero, Nat.mul_one, Nat.one_mul, Bool.not_true, Bool.not_false, ne_eq, not_true_eq_false, not_false_eq_true, Bool.false_eq_true, h1, o.row.len, hn]; exact hK a a0 a1
    · have e1 : IntKind.i64.wrap (a + 1) = a + 1 := i64_id (by omega) (by omega)
      have e2 : IntKind.i64.wrap (0 - (a + 1)) = -(a + 1) := by rw [i64_id (by omega) (by omega)]; omega
      have e3 : IntKind.u64.wrap (-(a + 1)) = -(a + 1) := u64_id (by omega) (by omega)
      have e4 : IntKind.u64.wrap (l.length : Int) = l.length := u64_id (by omega) (by omega)
      have e5 : (-(a + 1)).tmod (l.length : Int) = -(a + 1) % (l.length : Int) := Int.tmod_eq_emod_of_nonneg (by omega)
      have m0 := Int.emod_nonneg (-(a + 1)) hn
      have m1 := Int.emod_lt_of_pos (-(a + 1)) (show (0 : Int) < l.length by omega)
      obtain ⟨k, hk⟩ := Int.eq_ofNat_of_zero_le m0
      rw [hk] at m1 e5
      have hkl : k < l.length := by omega
      have e6 : IntKind.i64.wrap (k : Int) = k := i64_id (by omega) (by omega)
      obtain ⟨x, hx⟩ : ∃ x, l[k]? = some x := ⟨l[k], by simp [hkl]⟩
      obtain ⟨b', q, q1, q2, q3⟩ := o.obj hx
      obtain ⟨c3, c4, c0⟩ := cells3 q2
      have hx' := hr x (List.mem_of_getElem? hx)
      simp only [sh61, go_sem, reduceIte, Nat.reduceAdd, Nat.reduceSub, Nat.reduceMul, Nat.reducePow, Nat.reduceLT, Nat.reduceLeDiff, Nat.reduceEqDiff, Int.reduceAdd, Int.reduceSub, Int.reduceMul, Int.reduceNeg, Int.reducePow, Int.reduceLT, Int.reduceLE, Int.reduceEq, Int.reduceNe, Int.reduceToNat, Int.toNat_natCast, Nat.zero_add, Nat.add_zero, Nat.mul_one, Nat.one_mul, Bool.not_true, Bool.not_false, ne_eq, not_true_eq_false, not_false_eq_true, Bool.false_eq_true, h1, o.row.len, hn, e1, e2, e3, e4, e5, e6, q1, c0]
      exact hK _ (by omega) (by omega)
structure OpI where
  k : Int
  a : Int
  b : Int
  w : Int
  near : Bool
def OpI.cells (o : OpI) : List AV := [.int .i64 o.k, .int .i64 o.a, .int .i64 o.b, .int .u64 o.w, .bool o.near]
structure OpI.ok (o : OpI) : Prop where
  a0 : -9223372036854775808 ≤ o.a
  a1 : o.a ≤ 9223372036854775807
  w0 : 0 ≤ o.w
  w1 : o.w < 18446744073709551616
theorem Both.top (t : Both h0 h b bw bd B s os bx BL l) : topR s.lays l = s.top := t.r.top t.A
theorem Both.alloc (t : Both h0 h b bw bd B s os bx BL l) (hl : l.length ≤ 900) (i n : Int) {d : Nat} {od : List AV × Nat} (hd : h.get d = some (.live od.1 od.2 true)) (hdn : d ∉ b :: bw :: bd :: B) {K : AV → H → Prop}
    (hK : ∀ v h' s', Fr [b, bw, bd] h h' → HeapAt h' b bw bd B s' → s'.lays = s.lays → s'.words.length = s.words.length →
      (∀ K', (∀ h2 os2 BL2 l2, Fr (blocksR bx BL l) h' h2 → Both h0 h2 b bw bd B s' os2 bx BL2 l2 → l2.length ≤ l.length + 1 → K' v h2) → C 102 [.ptr bx 0, .int .i64 i, .int .i64 n] h' K') → (∃ p e, v = .tup [.int .i64 p, .int .i64 e]) → K v h') :
    C 55 [.ptr b 0, .int .i64 i, .int .i64 n] h K := by
  have ht := t.top
  have w1 := t.A.good.wlen
  refine alloc_c t.hh t.A.good i n (fun he h' f => ?_) (fun he hk h' f => ?_) fun he hk h' f hh' => ?_
  · have t' := t.keep0 f
    refine hK _ h' s f.more t'.hh rfl rfl (fun K' hK' => ?_) ⟨_, _, rfl⟩
    refine ralloc_c t'.R (by omega) (by omega) (by omega) i n (fun _ h2 f2 => hK' h2 os BL l f2.more (t'.keep0 f2) (by omega)) (fun q => absurd q he) (fun q => absurd q he)
  · have t' := t.keep0 f
    refine hK _ h' s f.more t'.hh rfl rfl (fun K' hK' => ?_) ⟨_, _, rfl⟩
    refine ralloc_c t'.R (by omega) (by omega) (by omega) i n (fun q => absurd he q) (fun _ _ h2 f2 => hK' h2 os BL l f2.more (t'.keep0 f2) (by omega)) (fun _ q => by rw [ht] at q; omega)
  · have A' := abs_alloc t.A he hk
    have hlen : (s.alloc i n (needN s.lays i n).1).words.length = s.words.length := by
      simp only [Hs.alloc, Hs.mark]
      split
      · rw [List.length_set]
      · rw [fillW_length, List.length_set]
    have hlay : (s.alloc i n (needN s.lays i n).1).lays = s.lays := rfl
    have f0 : Fr [] h0 h' := t.R.fr.cons (fun c hc => t.new c (by simp at hc ⊢; rcases hc with q | q | q <;> simp [q])) f
    have R' : RefAt h0 h' bx s.words.length s.lays BL l := t.R.keep f (fun c hc q => t.ap c (by simp at q ⊢; rcases q with q | q | q <;> simp [q]) hc) f0
    refine hK _ h' _ f hh' hlay hlen (fun K' hK' => ?_) ⟨_, _, rfl⟩
    refine ralloc_c R' (by omega) (by omega) (by omega) i n (fun q => absurd he q) (fun _ q => by rw [ht] at q; omega) fun _ _ h2 BL2 x f2 R2 hx hb => ?_
    rw [ht]
    have p := need_pos he
    refine hK' h2 _ BL2 (l ++ [x]) f2 ⟨hh'.fr f2 (fun c hc => t.ap c hc), A', by rw [hlen, hlay]; exact R2, ?_, ?_, t.new, by rw [hlay]; exact fitAll_snoc t.fit i n⟩ (by simp)
    · rw [hlay]
      refine t.r.snoc _ x ?_ (by rw [hx]; exact newRO_rel p.2.2.2.1)
      rw [hx]
      show topR s.lays l = _
      rw [ht, t.A.top]; simp
    · intro c hc q
      rcases hb c q with q | q
      · exact t.ap c hc q
      · exact hh'.alive c hc q
end
end Go.Proofs.Ytljkkfcokpimkaa.X
