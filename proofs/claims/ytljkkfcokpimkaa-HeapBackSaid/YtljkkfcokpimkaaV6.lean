/- The document's example of the heap; a heap that there isn't; which heaps there may be; how many words an object needs. -/
import Derived.Test.YtljkkfcokpimkaaV5
set_option linter.unusedVariables false
set_option linter.unusedSimpArgs false
set_option maxRecDepth 20000
namespace Go.Proofs.Ytljkkfcokpimkaa.X
open Go Go.RowKit

def exL : List (Int × Int) := [(1, 2), (3, 0)]
section
variable {h : H}
theorem alloc_ok {b bw bd : Nat} {B : List Nat} {s : Hs} {os : List Ob} (hh : HeapAt h b bw bd B s) (A : Abs s os) {i n : Int} (he : (needN s.lays i n).2 = 0) (hk : (needN s.lays i n).1 ≤ (s.words.length : Int) - s.top) {t : Int} (ht : (s.top : Int) = t) {K : AV → H → Prop}
    (hG : ∀ h', Fr [b, bw, bd] h h' → HeapAt h' b bw bd B (s.alloc i n (needN s.lays i n).1) → Abs (s.alloc i n (needN s.lays i n).1) (os ++ [newOb s.lays i n]) → K (.tup [.int .i64 t, .int .i64 0]) h') : C 55 [.ptr b 0, .int .i64 i, .int .i64 n] h K :=
  alloc_c hh A.good i n (fun q => absurd he q) (fun _ q => by omega) fun _ _ h' f q => by rw [ht]; exact hG h' f q (abs_alloc A he hk)
theorem alloc_err {b bw bd : Nat} {B : List Nat} {s : Hs} (hh : HeapAt h b bw bd B s) (g : s.good) {i n e : Int} (he : (needN s.lays i n).2 = e) (h0 : e ≠ 0) {K : AV → H → Prop}
    (hE : ∀ h', Fr [] h h' → K (.tup [.int .i64 0, .int .i64 e]) h') : C 55 [.ptr b 0, .int .i64 i, .int .i64 n] h K :=
  alloc_c hh g i n (fun _ h' f => by rw [he]; exact hE h' f) (fun q => absurd (he.symm.trans q) h0) (fun q => absurd (he.symm.trans q) h0)
theorem alloc_full {b bw bd : Nat} {B : List Nat} {s : Hs} (hh : HeapAt h b bw bd B s) (g : s.good) {i n : Int} (he : (needN s.lays i n).2 = 0) (hk : (s.words.length : Int) - s.top < (needN s.lays i n).1) {K : AV → H → Prop}
    (hF : ∀ h', Fr [] h h' → K (.tup [.int .i64 0, .int .i64 3]) h') : C 55 [.ptr b 0, .int .i64 i, .int .i64 n] h K :=
  alloc_c hh g i n (fun q => absurd he q) (fun _ _ h' f => hF h' f) (fun _ q => by omega)
theorem Fr.cons {S : List Nat} {h0 h1 h2 : H} {P : List Nat} (f : Fr S h0 h1) (hP : ∀ c ∈ P, h0.get c = none) (f2 : Fr P h1 h2) : Fr S h0 h2 := fun c o hc hg => by
  refine f2 c o (fun q => ?_) (f c o hc hg)
  rw [hP c q] at hg; cases hg
theorem exLives_c {K : AV → H → Prop} (hK : ∀ h', Fr [] h h' → K (.bool true) h') : C 51 [] h K := by
  refine run51 ?_
  have e1 : fillV [.int .i64 0, .int .i64 0] [(0, 1, .int .i64 1), (1, 1, .int .i64 2)] = some [.int .i64 1, .int .i64 2] := rfl
  have e2 : fillV [.int .i64 0, .int .i64 0] [(0, 1, .int .i64 3)] = some [.int .i64 3, .int .i64 0] := rfl
  have e3 : fillV [.int .i64 0, .int .i64 0, .int .i64 0, .int .i64 0] [(0, 2, .agg [.int .i64 1, .int .i64 2]), (2, 2, .agg [.int .i64 3, .int .i64 0])] = some (lc exL) := rfl
  simp only [sh51, e1, e2, buildA_s, valA_some, e3, mkslA_s]
  refine ⟨rfl, fun b0 hb0 => ?_⟩
  have f0 : Fr [] h (h.set b0 (.live (lc exL) 60 true)) := Fr.new hb0
  have r0 : Row (h.set b0 (.live (lc exL) 60 true)) (.sl b0 0 2 (.exact 2)) exL.length 2 (lc exL) := ⟨rfl, .inr ⟨b0, 0, _, rfl, rfl, H.read_eq (H.get_same ..) (by decide) rfl⟩⟩
  refine new_c r0 (by decide) (fun q => absurd (by decide) q) fun _ h1 b bw bd B f1 hfr hh1 => ?_
  have A1 := abs_new 10 (lays := exL) (by decide) (by decide) (by decide)
  have hP : ∀ c ∈ [b, bw, bd], h.get c = none := fun c hc => by
    refine f0.free (hfr c ?_)
    simp only [List.mem_cons, List.not_mem_nil, or_false] at hc
    rcases hc with rfl | rfl | rfl <;> simp
  have g1 := f0.trans f1
  simp only [go_sem, reduceIte, Nat.reduceAdd, Nat.reduceSub, Nat.reduceMul, Nat.reducePow, Nat.reduceLT, Nat.reduceLeDiff, Nat.reduceEqDiff, Int.reduceAdd, Int.reduceSub, Int.reduceMul, Int.reduceNeg, Int.reducePow, Int.reduceLT, Int.reduceLE, Int.reduceEq, Int.reduceNe, Int.reduceToNat, Int.toNat_natCast, Nat.zero_add, Nat.add_zero, Nat.mul_one, Nat.one_mul, Bool.not_true, Bool.not_false, ne_eq, not_true_eq_false, not_false_eq_true, Bool.false_eq_true, b_pn]
  refine alloc_ok (i := 0) (n := 2) hh1 A1 (by decide) (by decide) (t := 0) rfl fun h2 f2 hh2 A2 => ?_
  have g2 := g1.cons hP f2
  simp only [go_sem, reduceIte, Nat.reduceAdd, Nat.reduceSub, Nat.reduceMul, Nat.reducePow, Nat.reduceLT, Nat.reduceLeDiff, Nat.reduceEqDiff, Int.reduceAdd, Int.reduceSub, Int.reduceMul, Int.reduceNeg, Int.reducePow, Int.reduceLT, Int.reduceLE, Int.reduceEq, Int.reduceNe, Int.reduceToNat, Int.toNat_natCast, Nat.zero_add, Nat.add_zero, Nat.mul_one, Nat.one_mul, Bool.not_true, Bool.not_false, ne_eq, not_true_eq_false, not_false_eq_true, Bool.false_eq_true]
  refine alloc_ok (i := 1) (n := 9) hh2 A2 (by decide) (by decide) (t := 3) rfl fun h3 f3 hh3 A3 => ?_
  have g3 := g2.cons hP f3
  simp only [go_sem, reduceIte, Nat.reduceAdd, Nat.reduceSub, Nat.reduceMul, Nat.reducePow, Nat.reduceLT, Nat.reduceLeDiff, Nat.reduceEqDiff, Int.reduceAdd, Int.reduceSub, Int.reduceMul, Int.reduceNeg, Int.reducePow, Int.reduceLT, Int.reduceLE, Int.reduceEq, Int.reduceNe, Int.reduceToNat, Int.toNat_natCast, Nat.zero_add, Nat.add_zero, Nat.mul_one, Nat.one_mul, Bool.not_true, Bool.not_false, ne_eq, not_true_eq_false, not_false_eq_true, Bool.false_eq_true]
  refine alloc_err (i := 0) (n := 1) (e := 1) hh3 A3.good (by decide) (by decide) fun h4 f4 => ?_
  have g4 := g3.trans f4
  have hh4 := hh3.fr0 f4
  simp only [go_sem, reduceIte, Nat.reduceAdd, Nat.reduceSub, Nat.reduceMul, Nat.reducePow, Nat.reduceLT, Nat.reduceLeDiff, Nat.reduceEqDiff, Int.reduceAdd, Int.reduceSub, Int.reduceMul, Int.reduceNeg, Int.reducePow, Int.reduceLT, Int.reduceLE, Int.reduceEq, Int.reduceNe, Int.reduceToNat, Int.toNat_natCast, Nat.zero_add, Nat.add_zero, Nat.mul_one, Nat.one_mul, Bool.not_true, Bool.not_false, ne_eq, not_true_eq_false, not_false_eq_true, Bool.false_eq_true]
  refine alloc_ok (i := 0) (n := 2) hh4 A3 (by decide) (by decide) (t := 6) rfl fun h5 f5 hh5 A5 => ?_
  have g5 := g4.cons hP f5
  simp only [go_sem, reduceIte, Nat.reduceAdd, Nat.reduceSub, Nat.reduceMul, Nat.reducePow, Nat.reduceLT, Nat.reduceLeDiff, Nat.reduceEqDiff, Int.reduceAdd, Int.reduceSub, Int.reduceMul, Int.reduceNeg, Int.reducePow, Int.reduceLT, Int.reduceLE, Int.reduceEq, Int.reduceNe, Int.reduceToNat, Int.toNat_natCast, Nat.zero_add, Nat.add_zero, Nat.mul_one, Nat.one_mul, Bool.not_true, Bool.not_false, ne_eq, not_true_eq_false, not_false_eq_true, Bool.false_eq_true]
  refine alloc_full (i := 0) (n := 2) hh5 A5.good (by decide) (by decide) fun h6 f6 => ?_
  have g6 := g5.trans f6
  have hh6 := hh5.fr0 f6
  generalize hs : (Hs.alloc _ 0 2 _ : Hs) = s6 at hh6 A5
  have hl : s6.lays = exL := by rw [← hs]; rfl
  generalize ho : ((_ ++ [_] : List Ob)) = os6 at A5
  have w6 : ∀ (h : H) K, C 82 [.int .i64 3] h K = K (.int .u64 6) h := fun h K => by rw [ptr_c]; rfl
  have w8 : ∀ (h : H) K, C 82 [.int .i64 4] h K = K (.int .u64 8) h := fun h K => by rw [ptr_c]; rfl
  have q1 : (hasO s6.lays os6 0 1 false && fitsO os6 6) = true := by rw [hl, ← ho]; decide
  have hf1 : findO os6 0 = some (newOb exL 0 2) := by rw [← ho]; rfl
  have hh7 := hh6.put 2 6
  have A7 : Abs (s6.put 2 6) (setO os6 0 1 6) := abs_set A5 (i := 1) (w := 6) hf1 (by decide) (by decide) (by decide)
  have q2 : (hasO (s6.put 2 6).lays (setO os6 0 1 6) 0 1 false && fitsO (setO os6 0 1 6) 8) = false := by
    rw [show (s6.put 2 6).lays = exL from hl, ← ho]; decide
  have s1 := fun (K : AV → H → Prop) => set_a hh6 A5 (a := 0) (i := 1) (w := 6) (by decide) (by decide) K
  have s2 := fun (K : AV → H → Prop) => set_a hh7 A7 (a := 0) (i := 1) (w := 8) (by decide) (by decide) K
  rw [q1] at s1
  rw [q2] at s2
  simp only [go_sem, reduceIte, Nat.reduceAdd, Nat.reduceSub, Nat.reduceMul, Nat.reducePow, Nat.reduceLT, Nat.reduceLeDiff, Nat.reduceEqDiff, Int.reduceAdd, Int.reduceSub, Int.reduceMul, Int.reduceNeg, Int.reducePow, Int.reduceLT, Int.reduceLE, Int.reduceEq, Int.reduceNe, Int.reduceToNat, Int.toNat_natCast, Nat.zero_add, Nat.add_zero, Nat.mul_one, Nat.one_mul, Bool.not_true, Bool.not_false, ne_eq, not_true_eq_false, not_false_eq_true, Bool.false_eq_true, w6, w8, s1, s2]
  refine hK _ ?_
  exact g6.cons hP (Fr.put (by simp))
end
end Go.Proofs.Ytljkkfcokpimkaa.X
