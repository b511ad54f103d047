/- The heap's functions that tell, on its state. -/
import Derived.Test.YtljkkfcokpimkaaV1
set_option linter.unusedVariables false
set_option linter.unusedSimpArgs false
set_option maxRecDepth 20000
namespace Go.Proofs.Ytljkkfcokpimkaa.X
open Go Go.RowKit

def Hs.wd (s : Hs) (a : Int) : Int := s.words.getD a.toNat 0
def Hs.hb (s : Hs) (a : Int) : Int := s.heads.getD (a / 64).toNat 0
def Hs.isAt (s : Hs) (a : Int) : Bool := decide (0 ≤ a) && (decide (a < s.top) && decide (s.hb a / 2 ^ (a % 64).toNat % 2 = 1))
def shapeOf (w : Int) : Int := w / 2 % 1048576
def lenOf (w : Int) : Int := w / 2097152 % 1048576
def kindAt (lays : List (Int × Int)) (i : Int) : Int := (lays.getD i.toNat (0, 0)).1
def nAt (lays : List (Int × Int)) (i : Int) : Int := (lays.getD i.toNat (0, 0)).2
def needN (lays : List (Int × Int)) (shape n : Int) : Int × Int :=
  if shape < 0 ∨ (lays.length : Int) ≤ shape ∨ n < 0 then (0, 1)
  else if kindAt lays shape = 1 ∧ n ≠ nAt lays shape then (0, 1)
  else if 65536 < n then (0, 2)
  else if kindAt lays shape = 3 then (1 + (n + 7) / 8, 0)
  else (1 + n, 0)
def Hs.fits (s : Hs) (w : Int) : Bool := decide (w % 2 = 1) || s.isAt (w / 2)
def Hs.hasN (s : Hs) (a i : Int) (bytes : Bool) : Bool := s.isAt a && (decide ((decide (kindAt s.lays (shapeOf (s.wd a)) = 3)) = bytes) && (decide (0 ≤ i) && decide (i < lenOf (s.wd a))))
/-- Each head is of a shape that there is. -/
def Hs.fit (s : Hs) : Prop := ∀ a, s.isAt a = true → shapeOf (s.wd a) < s.lays.length

theorem HeapAt.fr {h h' : H} {b bw bd : Nat} {B : List Nat} {s : Hs} (hh : HeapAt h b bw bd B s) {S : List Nat} (f : Fr S h h') (hs : ∀ c ∈ b :: bw :: bd :: B, c ∉ S) : HeapAt h' b bw bd B s := by
  obtain ⟨⟨lv, h1, h2⟩, h3, h4, h5⟩ := hh
  refine ⟨⟨lv, f _ _ (hs _ (by simp)) h1, ?_⟩, f _ _ (hs _ (by simp)) h3, f _ _ (hs _ (by simp)) h4, h5⟩
  rcases h2 with q | ⟨bl, q1, q2, q3⟩
  · exact .inl q
  · exact .inr ⟨bl, q1, q2, f _ _ (hs _ (by simp [q2])) q3⟩
theorem HeapAt.fr0 {h h' : H} {b bw bd : Nat} {B : List Nat} {s : Hs} (hh : HeapAt h b bw bd B s) (f : Fr [] h h') : HeapAt h' b bw bd B s := hh.fr f (by simp)
theorem HeapAt.alive {h : H} {b bw bd : Nat} {B : List Nat} {s : Hs} (hh : HeapAt h b bw bd B s) : Alive h (b :: bw :: bd :: B) := by
  obtain ⟨⟨lv, h1, h2⟩, h3, h4, h5⟩ := hh
  intro c hc
  simp only [List.mem_cons] at hc
  rcases hc with rfl | rfl | rfl | hc
  · rw [h1]; simp
  · rw [h3]; simp
  · rw [h4]; simp
  · rcases h2 with ⟨_, _, q⟩ | ⟨bl, q1, q2, q3⟩
    · rw [q] at hc; cases hc
    · rw [q2] at hc; simp at hc; subst hc; rw [q3]; simp
section
variable {h : H} {b bw bd : Nat} {B : List Nat} {s : Hs}
theorem HeapAt.cells (hh : HeapAt h b bw bd B s) : ∃ lv, (∀ off, h.cell b off = [AV.sl bw 0 s.words.length (.exact s.words.length), .sl bd 0 s.heads.length (.exact s.heads.length), lv, .int .i64 s.top][off]?) ∧ Row h lv s.lays.length 2 (lc s.lays) ∧ h.get b = some (.live [.sl bw 0 s.words.length (.exact s.words.length), .sl bd 0 s.heads.length (.exact s.heads.length), lv, .int .i64 s.top] 130 true) := by
  obtain ⟨lv, h1, h2⟩ := hh.st
  exact ⟨lv, fun off => cell_of h1 off, h2.row, h1⟩
theorem HeapAt.word (hh : HeapAt h b bw bd B s) {a : Int} (h0 : 0 ≤ a) (h1 : a < s.words.length) : h.cell bw a.toNat = some (.int .u64 (s.wd a)) := by
  rw [cell_of hh.wd, wc_get]
  unfold Hs.wd
  rw [List.getD_eq_getElem?_getD, List.getElem?_eq_getElem (by omega)]
  rfl
theorem HeapAt.head (hh : HeapAt h b bw bd B s) {a : Int} (h1 : (a / 64).toNat < s.heads.length) : h.cell bd (a / 64).toNat = some (.int .u64 (s.hb a)) := by
  rw [cell_of hh.hd, wc_get]
  unfold Hs.hb
  rw [List.getD_eq_getElem?_getD, List.getElem?_eq_getElem h1]
  rfl
theorem lay_get {L : List (Int × Int)} {i : Int} (h0 : 0 ≤ i) (h1 : i < L.length) : L[i.toNat]? = some (kindAt L i, nAt L i) := by
  unfold kindAt nAt
  rw [List.getD_eq_getElem?_getD, List.getElem?_eq_getElem (by omega)]
  rfl
theorem getD_range {l : List Int} (hl : ∀ w ∈ l, 0 ≤ w ∧ w < 18446744073709551616) (i : Nat) : 0 ≤ l.getD i 0 ∧ l.getD i 0 < 18446744073709551616 := by
  rw [List.getD_eq_getElem?_getD]
  cases hx : l[i]? with
  | none => simp
  | some x => exact hl x (List.mem_of_getElem? hx)
theorem Hs.good.wdr (g : s.good) (a : Int) : 0 ≤ s.wd a ∧ s.wd a < 18446744073709551616 := getD_range g.wrange _
theorem Hs.good.hbr (g : s.good) (a : Int) : 0 ≤ s.hb a ∧ s.hb a < 18446744073709551616 := getD_range g.hrange _
theorem div_pow_range {w : Int} (k : Nat) (h0 : 0 ≤ w) (h1 : w < 18446744073709551616) : 0 ≤ w / 2 ^ k ∧ w / 2 ^ k ≤ 18446744073709551615 :=
  ⟨Int.ediv_nonneg h0 (Int.pow_nonneg (by decide)), Int.le_trans (Int.ediv_le_self _ h0) (by omega)⟩
theorem size_c (hh : HeapAt h b bw bd B s) (K : AV → H → Prop) : C 58 [.ptr b 0] h K = K (.int .i64 s.words.length) h := by
  refine callA_eq (run58 ?_) K
  obtain ⟨lv, c, _⟩ := hh.cells
  simp only [sh58, go_sem, reduceIte, Nat.reduceAdd, Nat.reduceSub, Nat.reduceMul, Nat.reducePow, Nat.reduceLT, Nat.reduceLeDiff, Nat.reduceEqDiff, Int.reduceAdd, Int.reduceSub, Int.reduceMul, Int.reduceNeg, Int.reducePow, Int.reduceLT, Int.reduceLE, Int.reduceEq, Int.reduceNe, Int.reduceToNat, Int.toNat_natCast, Nat.zero_add, Nat.add_zero, Nat.mul_one, Nat.one_mul, Bool.not_true, Bool.not_false, ne_eq, not_true_eq_false, not_false_eq_true, Bool.false_eq_true, c]
theorem top_c (hh : HeapAt h b bw bd B s) (K : AV → H → Prop) : C 57 [.ptr b 0] h K = K (.int .i64 s.top) h := by
  refine callA_eq (run57 ?_) K
  obtain ⟨lv, c, _⟩ := hh.cells
  simp only [sh57, go_sem, reduceIte, Nat.reduceAdd, Nat.reduceSub, Nat.reduceMul, Nat.reducePow, Nat.reduceLT, Nat.reduceLeDiff, Nat.reduceEqDiff, Int.reduceAdd, Int.reduceSub, Int.reduceMul, Int.reduceNeg, Int.reducePow, Int.reduceLT, Int.reduceLE, Int.reduceEq, Int.reduceNe, Int.reduceToNat, Int.toNat_natCast, Nat.zero_add, Nat.add_zero, Nat.mul_one, Nat.one_mul, Bool.not_true, Bool.not_false, ne_eq, not_true_eq_false, not_false_eq_true, Bool.false_eq_true, c]
theorem size_nil (K : AV → H → Prop) : C 58 [.nilp] h K = K (.int .i64 0) h := by
  refine callA_eq (run58 ?_) K
  simp only [sh58, go_sem, reduceIte, Nat.reduceAdd, Nat.reduceSub, Nat.reduceMul, Nat.reducePow, Nat.reduceLT, Nat.reduceLeDiff, Nat.reduceEqDiff, Int.reduceAdd, Int.reduceSub, Int.reduceMul, Int.reduceNeg, Int.reducePow, Int.reduceLT, Int.reduceLE, Int.reduceEq, Int.reduceNe, Int.reduceToNat, Int.toNat_natCast, Nat.zero_add, Nat.add_zero, Nat.mul_one, Nat.one_mul, Bool.not_true, Bool.not_false, ne_eq, not_true_eq_false, not_false_eq_true, Bool.false_eq_true]
theorem top_nil (K : AV → H → Prop) : C 57 [.nilp] h K = K (.int .i64 0) h := by
  refine callA_eq (run57 ?_) K
  simp only [sh57, go_sem, reduceIte, Nat.reduceAdd, Nat.reduceSub, Nat.reduceMul, Nat.reducePow, Nat.reduceLT, Nat.reduceLeDiff, Nat.reduceEqDiff, Int.reduceAdd, Int.reduceSub, Int.reduceMul, Int.reduceNeg, Int.reducePow, Int.reduceLT, Int.reduceLE, Int.reduceEq, Int.reduceNe, Int.reduceToNat, Int.toNat_natCast, Nat.zero_add, Nat.add_zero, Nat.mul_one, Nat.one_mul, Bool.not_true, Bool.not_false, ne_eq, not_true_eq_false, not_false_eq_true, Bool.false_eq_true]
theorem is_nil (a : AV) (K : AV → H → Prop) : C 56 [.nilp, a] h K = K (.bool false) h := by
  refine callA_eq (run56 ?_) K
  simp only [sh56, go_sem, reduceIte, Nat.reduceAdd, Nat.reduceSub, Nat.reduceMul, Nat.reducePow, Nat.reduceLT, Nat.reduceLeDiff, Nat.reduceEqDiff, Int.reduceAdd, Int.reduceSub, Int.reduceMul, Int.reduceNeg, Int.reducePow, Int.reduceLT, Int.reduceLE, Int.reduceEq, Int.reduceNe, Int.reduceToNat, Int.toNat_natCast, Nat.zero_add, Nat.add_zero, Nat.mul_one, Nat.one_mul, Bool.not_true, Bool.not_false, ne_eq, not_true_eq_false, not_false_eq_true, Bool.false_eq_true]
theorem fits_nil (a : AV) (K : AV → H → Prop) : C 68 [.nilp, a] h K = K (.bool false) h := by
  refine callA_eq (run68 ?_) K
  simp only [sh68, go_sem, reduceIte, Nat.reduceAdd, Nat.reduceSub, Nat.reduceMul, Nat.reducePow, Nat.reduceLT, Nat.reduceLeDiff, Nat.reduceEqDiff, Int.reduceAdd, Int.reduceSub, Int.reduceMul, Int.reduceNeg, Int.reducePow, Int.reduceLT, Int.reduceLE, Int.reduceEq, Int.reduceNe, Int.reduceToNat, Int.toNat_natCast, Nat.zero_add, Nat.add_zero, Nat.mul_one, Nat.one_mul, Bool.not_true, Bool.not_false, ne_eq, not_true_eq_false, not_false_eq_true, Bool.false_eq_true]
theorem is_c (hh : HeapAt h b bw bd B s) (g : s.good) (a : Int) (K : AV → H → Prop) : C 56 [.ptr b 0, .int .i64 a] h K = K (.bool (s.isAt a)) h := by
  refine callA_eq (run56 ?_) K
  obtain ⟨lv, c, _⟩ := hh.cells
  by_cases h0 : 0 ≤ a
  · by_cases h1 : a < s.top
    · have g1 := g.wlen; have g2 := g.hlen; have g3 := g.top
      have hl : (a / 64).toNat < s.heads.length := by omega
      have e1 : IntKind.i64.wrap (a.tdiv 64) = a / 64 := by rw [Int.tdiv_eq_ediv_of_nonneg h0, i64_id (by omega) (by omega)]
      have e2 : a.tmod 64 = a % 64 := Int.tmod_eq_emod_of_nonneg h0
      have i0 : 0 ≤ a / 64 := by omega
      have i1 : a / 64 < (s.heads.length : Int) := by omega
      have m0 : 0 ≤ a % 64 := by omega
      have m1 : a % 64 ≤ 64 := by omega
      have hr := g.hbr a
      have hq := div_pow_range (a % 64).toNat hr.1 hr.2
      have e3 : s.isAt a = decide (s.hb a / 2 ^ (a % 64).toNat % 2 = 1) := by unfold Hs.isAt; simp only [h0, h1, decide_true, Bool.true_and]
      simp only [sh56, go_sem, reduceIte, Nat.reduceAdd, Nat.reduceSub, Nat.reduceMul, Nat.reducePow, Nat.reduceLT, Nat.reduceLeDiff, Nat.reduceEqDiff, Int.reduceAdd, Int.reduceSub, Int.reduceMul, Int.reduceNeg, Int.reducePow, Int.reduceLT, Int.reduceLE, Int.reduceEq, Int.reduceNe, Int.reduceToNat, Int.toNat_natCast, Nat.zero_add, Nat.add_zero, Nat.mul_one, Nat.one_mul, Bool.not_true, Bool.not_false, ne_eq, not_true_eq_false, not_false_eq_true, Bool.false_eq_true, c, h0, h1, e1, e2, i0, i1, hh.head hl, b_shr_u64 m0 m1, and1 _ hq.1 hq.2, e3]
    · have e3 : s.isAt a = false := by unfold Hs.isAt; simp [h1]
      simp only [sh56, go_sem, reduceIte, Nat.reduceAdd, Nat.reduceSub, Nat.reduceMul, Nat.reducePow, Nat.reduceLT, Nat.reduceLeDiff, Nat.reduceEqDiff, Int.reduceAdd, Int.reduceSub, Int.reduceMul, Int.reduceNeg, Int.reducePow, Int.reduceLT, Int.reduceLE, Int.reduceEq, Int.reduceNe, Int.reduceToNat, Int.toNat_natCast, Nat.zero_add, Nat.add_zero, Nat.mul_one, Nat.one_mul, Bool.not_true, Bool.not_false, ne_eq, not_true_eq_false, not_false_eq_true, Bool.false_eq_true, c, h0, h1, e3]
  · have e3 : s.isAt a = false := by unfold Hs.isAt; simp [h0]
    simp only [sh56, go_sem, reduceIte, Nat.reduceAdd, Nat.reduceSub, Nat.reduceMul, Nat.reducePow, Nat.reduceLT, Nat.reduceLeDiff, Nat.reduceEqDiff, Int.reduceAdd, Int.reduceSub, Int.reduceMul, Int.reduceNeg, Int.reducePow, Int.reduceLT, Int.reduceLE, Int.reduceEq, Int.reduceNe, Int.reduceToNat, Int.toNat_natCast, Nat.zero_add, Nat.add_zero, Nat.mul_one, Nat.one_mul, Bool.not_true, Bool.not_false, ne_eq, not_true_eq_false, not_false_eq_true, Bool.false_eq_true, c, h0, e3]
theorem fits_c (hh : HeapAt h b bw bd B s) (g : s.good) {w : Int} (w0 : 0 ≤ w) (w1 : w < 18446744073709551616) (K : AV → H → Prop) : C 68 [.ptr b 0, .int .u64 w] h K = K (.bool (s.fits w)) h := by
  refine callA_eq (run68 ?_) K
  by_cases h0 : w % 2 = 1
  · have e : s.fits w = true := by simp [Hs.fits, h0]
    simp only [sh68, go_sem, reduceIte, Nat.reduceAdd, Nat.reduceSub, Nat.reduceMul, Nat.reducePow, Nat.reduceLT, Nat.reduceLeDiff, Nat.reduceEqDiff, Int.reduceAdd, Int.reduceSub, Int.reduceMul, Int.reduceNeg, Int.reducePow, Int.reduceLT, Int.reduceLE, Int.reduceEq, Int.reduceNe, Int.reduceToNat, Int.toNat_natCast, Nat.zero_add, Nat.add_zero, Nat.mul_one, Nat.one_mul, Bool.not_true, Bool.not_false, ne_eq, not_true_eq_false, not_false_eq_true, Bool.false_eq_true, isImm_c w0 w1, h0, e]
  · have e : s.fits w = s.isAt (w / 2) := by simp [Hs.fits, h0]
    simp only [sh68, go_sem, reduceIte, Nat.reduceAdd, Nat.reduceSub, Nat.reduceMul, Nat.reducePow, Nat.reduceLT, Nat.reduceLeDiff, Nat.reduceEqDiff, Int.reduceAdd, Int.reduceSub, Int.reduceMul, Int.reduceNeg, Int.reducePow, Int.reduceLT, Int.reduceLE, Int.reduceEq, Int.reduceNe, Int.reduceToNat, Int.toNat_natCast, Nat.zero_add, Nat.add_zero, Nat.mul_one, Nat.one_mul, Bool.not_true, Bool.not_false, ne_eq, not_true_eq_false, not_false_eq_true, Bool.false_eq_true, isImm_c w0 w1, h0, at_c w0 w1, is_c hh g, e]
theorem kind_c (hh : HeapAt h b bw bd B s) (i : Int) (K : AV → H → Prop) : C 54 [.ptr b 0, .int .i64 i] h K = K (.int .i64 (if i < 0 ∨ (s.lays.length : Int) ≤ i then 0 else kindAt s.lays i)) h := by
  refine callA_eq (run54 ?_) K
  obtain ⟨lv, c, r, _⟩ := hh.cells
  by_cases h0 : i < 0
  · simp only [sh54, go_sem, reduceIte, Nat.reduceAdd, Nat.reduceSub, Nat.reduceMul, Nat.reducePow, Nat.reduceLT, Nat.reduceLeDiff, Nat.reduceEqDiff, Int.reduceAdd, Int.reduceSub, Int.reduceMul, Int.reduceNeg, Int.reducePow, Int.reduceLT, Int.reduceLE, Int.reduceEq, Int.reduceNe, Int.reduceToNat, Int.toNat_natCast, Nat.zero_add, Nat.add_zero, Nat.mul_one, Nat.one_mul, Bool.not_true, Bool.not_false, ne_eq, not_true_eq_false, not_false_eq_true, Bool.false_eq_true, c, h0, true_or]
  · by_cases h1 : (s.lays.length : Int) ≤ i
    · simp only [sh54, go_sem, reduceIte, Nat.reduceAdd, Nat.reduceSub, Nat.reduceMul, Nat.reducePow, Nat.reduceLT, Nat.reduceLeDiff, Nat.reduceEqDiff, Int.reduceAdd, Int.reduceSub, Int.reduceMul, Int.reduceNeg, Int.reducePow, Int.reduceLT, Int.reduceLE, Int.reduceEq, Int.reduceNe, Int.reduceToNat, Int.toNat_natCast, Nat.zero_add, Nat.add_zero, Nat.mul_one, Nat.one_mul, Bool.not_true, Bool.not_false, ne_eq, not_true_eq_false, not_false_eq_true, Bool.false_eq_true, c, h0, h1, r.len, or_true]
    · have hi : ((i.toNat : Nat) : Int) = i := by omega
      obtain ⟨bl, o, q1, q2, q3, q4⟩ := r.lay (lay_get (L := s.lays) (i := i) (by omega) (by omega))
      rw [hi] at q1
      have hor : ¬ (i < 0 ∨ (s.lays.length : Int) ≤ i) := by omega
      simp only [sh54, go_sem, reduceIte, Nat.reduceAdd, Nat.reduceSub, Nat.reduceMul, Nat.reducePow, Nat.reduceLT, Nat.reduceLeDiff, Nat.reduceEqDiff, Int.reduceAdd, Int.reduceSub, Int.reduceMul, Int.reduceNeg, Int.reducePow, Int.reduceLT, Int.reduceLE, Int.reduceEq, Int.reduceNe, Int.reduceToNat, Int.toNat_natCast, Nat.zero_add, Nat.add_zero, Nat.mul_one, Nat.one_mul, Bool.not_true, Bool.not_false, ne_eq, not_true_eq_false, not_false_eq_true, Bool.false_eq_true, c, h0, h1, r.len, q1, q2, or_self]
theorem load_c (hh : HeapAt h b bw bd B s) (i : Int) (K : AV → H → Prop) : C 62 [.ptr b 0, .int .i64 i] h K = K (.int .u64 (if i < 0 ∨ (s.words.length : Int) ≤ i then 0 else s.wd i)) h := by
  refine callA_eq (run62 ?_) K
  obtain ⟨lv, c, r, _⟩ := hh.cells
  by_cases h0 : i < 0
  · simp only [sh62, go_sem, reduceIte, Nat.reduceAdd, Nat.reduceSub, Nat.reduceMul, Nat.reducePow, Nat.reduceLT, Nat.reduceLeDiff, Nat.reduceEqDiff, Int.reduceAdd, Int.reduceSub, Int.reduceMul, Int.reduceNeg, Int.reducePow, Int.reduceLT, Int.reduceLE, Int.reduceEq, Int.reduceNe, Int.reduceToNat, Int.toNat_natCast, Nat.zero_add, Nat.add_zero, Nat.mul_one, Nat.one_mul, Bool.not_true, Bool.not_false, ne_eq, not_true_eq_false, not_false_eq_true, Bool.false_eq_true, c, h0, true_or]
  · by_cases h1 : (s.words.length : Int) ≤ i
    · simp only [sh62, go_sem, reduceIte, Nat.reduceAdd, Nat.reduceSub, Nat.reduceMul, Nat.reducePow, Nat.reduceLT, Nat.reduceLeDiff, Nat.reduceEqDiff, Int.reduceAdd, Int.reduceSub, Int.reduceMul, Int.reduceNeg, Int.reducePow, Int.reduceLT, Int.reduceLE, Int.reduceEq, Int.reduceNe, Int.reduceToNat, Int.toNat_natCast, Nat.zero_add, Nat.add_zero, Nat.mul_one, Nat.one_mul, Bool.not_true, Bool.not_false, ne_eq, not_true_eq_false, not_false_eq_true, Bool.false_eq_true, c, h0, h1, size_c hh, or_true]
    · have i0 : 0 ≤ i := by omega
      have i1 : i < (s.words.length : Int) := by omega
      simp only [sh62, go_sem, reduceIte, Nat.reduceAdd, Nat.reduceSub, Nat.reduceMul, Nat.reducePow, Nat.reduceLT, Nat.reduceLeDiff, Nat.reduceEqDiff, Int.reduceAdd, Int.reduceSub, Int.reduceMul, Int.reduceNeg, Int.reducePow, Int.reduceLT, Int.reduceLE, Int.reduceEq, Int.reduceNe, Int.reduceToNat, Int.toNat_natCast, Nat.zero_add, Nat.add_zero, Nat.mul_one, Nat.one_mul, Bool.not_true, Bool.not_false, ne_eq, not_true_eq_false, not_false_eq_true, Bool.false_eq_true, c, h0, h1, size_c hh, i0, i1, hh.word i0 i1, or_self]
theorem load_nil (i : Int) (K : AV → H → Prop) : C 62 [.nilp, .int .i64 i] h K = K (.int .u64 0) h := by
  refine callA_eq (run62 ?_) K
  by_cases h0 : i < 0
  · simp only [sh62, go_sem, reduceIte, Nat.reduceAdd, Nat.reduceSub, Nat.reduceMul, Nat.reducePow, Nat.reduceLT, Nat.reduceLeDiff, Nat.reduceEqDiff, Int.reduceAdd, Int.reduceSub, Int.reduceMul, Int.reduceNeg, Int.reducePow, Int.reduceLT, Int.reduceLE, Int.reduceEq, Int.reduceNe, Int.reduceToNat, Int.toNat_natCast, Nat.zero_add, Nat.add_zero, Nat.mul_one, Nat.one_mul, Bool.not_true, Bool.not_false, ne_eq, not_true_eq_false, not_false_eq_true, Bool.false_eq_true, h0]
  · have : 0 ≤ i := by omega
    simp only [sh62, go_sem, reduceIte, Nat.reduceAdd, Nat.reduceSub, Nat.reduceMul, Nat.reducePow, Nat.reduceLT, Nat.reduceLeDiff, Nat.reduceEqDiff, Int.reduceAdd, Int.reduceSub, Int.reduceMul, Int.reduceNeg, Int.reducePow, Int.reduceLT, Int.reduceLE, Int.reduceEq, Int.reduceNe, Int.reduceToNat, Int.toNat_natCast, Nat.zero_add, Nat.add_zero, Nat.mul_one, Nat.one_mul, Bool.not_true, Bool.not_false, ne_eq, not_true_eq_false, not_false_eq_true, Bool.false_eq_true, h0, size_nil, this]
/-- What a word that is laid makes of the state. -/
def Hs.put (s : Hs) (a : Int) (w : Int) : Hs := { s with words := s.words.set a.toNat w }
theorem HeapAt.put (hh : HeapAt h b bw bd B s) (a w : Int) : HeapAt (h.set bw (.live (wc (s.put a w).words) 25 true)) b bw bd B (s.put a w) := by
  obtain ⟨⟨lv, h1, h2⟩, h3, h4, h5⟩ := hh
  refine ⟨⟨lv, ?_, ?_⟩, H.get_same .., ?_, h5⟩
  · rw [H.get_other _ _ h5.1, h1]; simp [Hs.put]
  · rcases h2 with q | ⟨bl, q1, q2, q3⟩
    · exact .inl q
    · exact .inr ⟨bl, q1, q2, by rw [H.get_other _ _ (fun e => h5.2.2.2.2.1 (by rw [q2, e]; simp))]; exact q3⟩
  · rw [H.get_other _ _ (fun e => h5.2.2.1 e.symm), h4]; rfl
theorem HeapAt.st_word (hh : HeapAt h b bw bd B s) {a w : Int} (h0 : 0 ≤ a) (h1 : a < s.words.length) : stA h 1 (.ptr bw a.toNat) (.int .u64 w) = some (h.set bw (.live (wc (s.put a w).words) 25 true)) := by
  rw [st_one hh.wd (by rw [wc_length]; omega), wc_set]; rfl
theorem store_c (hh : HeapAt h b bw bd B s) (i w : Int) (K : AV → H → Prop) : C 78 [.ptr b 0, .int .i64 i, .int .u64 w] h K = K (.tup []) (if 0 ≤ i ∧ i < s.words.length then h.set bw (.live (wc (s.put i w).words) 25 true) else h) := by
  refine callA_eq (run78 ?_) K
  obtain ⟨lv, c, r, _⟩ := hh.cells
  by_cases h0 : 0 ≤ i
  · by_cases h1 : i < (s.words.length : Int)
    · simp only [sh78, go_sem, reduceIte, Nat.reduceAdd, Nat.reduceSub, Nat.reduceMul, Nat.reducePow, Nat.reduceLT, Nat.reduceLeDiff, Nat.reduceEqDiff, Int.reduceAdd, Int.reduceSub, Int.reduceMul, Int.reduceNeg, Int.reducePow, Int.reduceLT, Int.reduceLE, Int.reduceEq, Int.reduceNe, Int.reduceToNat, Int.toNat_natCast, Nat.zero_add, Nat.add_zero, Nat.mul_one, Nat.one_mul, Bool.not_true, Bool.not_false, ne_eq, not_true_eq_false, not_false_eq_true, Bool.false_eq_true, c, h0, h1, size_c hh, hh.st_word h0 h1, and_self]
    · simp only [sh78, go_sem, reduceIte, Nat.reduceAdd, Nat.reduceSub, Nat.reduceMul, Nat.reducePow, Nat.reduceLT, Nat.reduceLeDiff, Nat.reduceEqDiff, Int.reduceAdd, Int.reduceSub, Int.reduceMul, Int.reduceNeg, Int.reducePow, Int.reduceLT, Int.reduceLE, Int.reduceEq, Int.reduceNe, Int.reduceToNat, Int.toNat_natCast, Nat.zero_add, Nat.add_zero, Nat.mul_one, Nat.one_mul, Bool.not_true, Bool.not_false, ne_eq, not_true_eq_false, not_false_eq_true, Bool.false_eq_true, c, h0, h1, size_c hh, and_false]
  · simp only [sh78, go_sem, reduceIte, Nat.reduceAdd, Nat.reduceSub, Nat.reduceMul, Nat.reducePow, Nat.reduceLT, Nat.reduceLeDiff, Nat.reduceEqDiff, Int.reduceAdd, Int.reduceSub, Int.reduceMul, Int.reduceNeg, Int.reducePow, Int.reduceLT, Int.reduceLE, Int.reduceEq, Int.reduceNe, Int.reduceToNat, Int.toNat_natCast, Nat.zero_add, Nat.add_zero, Nat.mul_one, Nat.one_mul, Bool.not_true, Bool.not_false, ne_eq, not_true_eq_false, not_false_eq_true, Bool.false_eq_true, c, h0, false_and]
theorem store_nil (i : Int) (w : AV) (K : AV → H → Prop) : C 78 [.nilp, .int .i64 i, w] h K = K (.tup []) h := by
  refine callA_eq (run78 ?_) K
  by_cases h0 : 0 ≤ i
  · have : ¬ i < 0 := by omega
    simp only [sh78, go_sem, reduceIte, Nat.reduceAdd, Nat.reduceSub, Nat.reduceMul, Nat.reducePow, Nat.reduceLT, Nat.reduceLeDiff, Nat.reduceEqDiff, Int.reduceAdd, Int.reduceSub, Int.reduceMul, Int.reduceNeg, Int.reducePow, Int.reduceLT, Int.reduceLE, Int.reduceEq, Int.reduceNe, Int.reduceToNat, Int.toNat_natCast, Nat.zero_add, Nat.add_zero, Nat.mul_one, Nat.one_mul, Bool.not_true, Bool.not_false, ne_eq, not_true_eq_false, not_false_eq_true, Bool.false_eq_true, h0, size_nil, this]
  · simp only [sh78, go_sem, reduceIte, Nat.reduceAdd, Nat.reduceSub, Nat.reduceMul, Nat.reducePow, Nat.reduceLT, Nat.reduceLeDiff, Nat.reduceEqDiff, Int.reduceAdd, Int.reduceSub, Int.reduceMul, Int.reduceNeg, Int.reducePow, Int.reduceLT, Int.reduceLE, Int.reduceEq, Int.reduceNe, Int.reduceToNat, Int.toNat_natCast, Nat.zero_add, Nat.add_zero, Nat.mul_one, Nat.one_mul, Bool.not_true, Bool.not_false, ne_eq, not_true_eq_false, not_false_eq_true, Bool.false_eq_true, h0]
theorem need_nil (a b : AV) (K : AV → H → Prop) : C 52 [.nilp, a, b] h K = K (.tup [.int .i64 0, .int .i64 1]) h := by
  refine callA_eq (run52 ?_) K
  simp only [sh52, go_sem, reduceIte, Nat.reduceAdd, Nat.reduceSub, Nat.reduceMul, Nat.reducePow, Nat.reduceLT, Nat.reduceLeDiff, Nat.reduceEqDiff, Int.reduceAdd, Int.reduceSub, Int.reduceMul, Int.reduceNeg, Int.reducePow, Int.reduceLT, Int.reduceLE, Int.reduceEq, Int.reduceNe, Int.reduceToNat, Int.toNat_natCast, Nat.zero_add, Nat.add_zero, Nat.mul_one, Nat.one_mul, Bool.not_true, Bool.not_false, ne_eq, not_true_eq_false, not_false_eq_true, Bool.false_eq_true]
theorem need_c (hh : HeapAt h b bw bd B s) (g : s.good) (i n : Int) {K : AV → H → Prop} (hK : ∀ h', Fr [] h h' → K (.tup [.int .i64 (needN s.lays i n).1, .int .i64 (needN s.lays i n).2]) h') : C 52 [.ptr b 0, .int .i64 i, .int .i64 n] h K := by
  refine run52 ?_
  obtain ⟨lv, c, r, _⟩ := hh.cells
  have triv := fun (e : needN s.lays i n = (0, 1)) => by have := hK h (Fr.refl _ _); rw [e] at this; exact this
  by_cases h0 : i < 0
  · have e : needN s.lays i n = (0, 1) := by unfold needN; rw [if_pos (.inl h0)]
    simp only [sh52, go_sem, reduceIte, Nat.reduceAdd, Nat.reduceSub, Nat.reduceMul, Nat.reducePow, Nat.reduceLT, Nat.reduceLeDiff, Nat.reduceEqDiff, Int.reduceAdd, Int.reduceSub, Int.reduceMul, Int.reduceNeg, Int.reducePow, Int.reduceLT, Int.reduceLE, Int.reduceEq, Int.reduceNe, Int.reduceToNat, Int.toNat_natCast, Nat.zero_add, Nat.add_zero, Nat.mul_one, Nat.one_mul, Bool.not_true, Bool.not_false, ne_eq, not_true_eq_false, not_false_eq_true, Bool.false_eq_true, c, h0]
    exact triv e
  by_cases h1 : (s.lays.length : Int) ≤ i
  · have e : needN s.lays i n = (0, 1) := by unfold needN; rw [if_pos (.inr (.inl h1))]
    simp only [sh52, go_sem, reduceIte, Nat.reduceAdd, Nat.reduceSub, Nat.reduceMul, Nat.reducePow, Nat.reduceLT, Nat.reduceLeDiff, Nat.reduceEqDiff, Int.reduceAdd, Int.reduceSub, Int.reduceMul, Int.reduceNeg, Int.reducePow, Int.reduceLT, Int.reduceLE, Int.reduceEq, Int.reduceNe, Int.reduceToNat, Int.toNat_natCast, Nat.zero_add, Nat.add_zero, Nat.mul_one, Nat.one_mul, Bool.not_true, Bool.not_false, ne_eq, not_true_eq_false, not_false_eq_true, Bool.false_eq_true, c, h0, h1, r.len]
    exact triv e
  by_cases h2 : n < 0
  · have e : needN s.lays i n = (0, 1) := by unfold needN; rw [if_pos (.inr (.inr h2))]
    simp only [sh52, go_sem, reduceIte, Nat.reduceAdd, Nat.reduceSub, Nat.reduceMul, Nat.reducePow, Nat.reduceLT, Nat.reduceLeDiff, Nat.reduceEqDiff, Int.reduceAdd, Int.reduceSub, Int.reduceMul, Int.reduceNeg, Int.reducePow, Int.reduceLT, Int.reduceLE, Int.reduceEq, Int.reduceNe, Int.reduceToNat, Int.toNat_natCast, Nat.zero_add, Nat.add_zero, Nat.mul_one, Nat.one_mul, Bool.not_true, Bool.not_false, ne_eq, not_true_eq_false, not_false_eq_true, Bool.false_eq_true, c, h0, h1, h2, r.len]
    exact triv e
  have e0 : needN s.lays i n = if kindAt s.lays i = 1 ∧ n ≠ nAt s.lays i then (0, 1) else if 65536 < n then (0, 2) else if kindAt s.lays i = 3 then (1 + (n + 7) / 8, 0) else (1 + n, 0) := by
    unfold needN; rw [if_neg (by omega)]
  have hi : ((i.toNat : Nat) : Int) = i := by omega
  obtain ⟨bl, o, q1, q2, q3, q4⟩ := r.lay (lay_get (L := s.lays) (i := i) (by omega) (by omega))
  rw [hi] at q1
  simp only [sh52, go_sem, reduceIte, Nat.reduceAdd, Nat.reduceSub, Nat.reduceMul, Nat.reducePow, Nat.reduceLT, Nat.reduceLeDiff, Nat.reduceEqDiff, Int.reduceAdd, Int.reduceSub, Int.reduceMul, Int.reduceNeg, Int.reducePow, Int.reduceLT, Int.reduceLE, Int.reduceEq, Int.reduceNe, Int.reduceToNat, Int.toNat_natCast, Nat.zero_add, Nat.add_zero, Nat.mul_one, Nat.one_mul, Bool.not_true, Bool.not_false, ne_eq, not_true_eq_false, not_false_eq_true, Bool.false_eq_true, c, h0, h1, h2, r.len, q1, q4]
  refine ⟨rfl, fun x hx => ?_⟩
  have hf : ∀ o, Fr [] h (h.set x o) := fun o => Fr.new hx
  have hw : leaves [AV.int .i64 (kindAt s.lays i), AV.int .i64 (nAt s.lays i)] = true := rfl
  simp only [go_sem, reduceIte, Nat.reduceAdd, Nat.reduceSub, Nat.reduceMul, Nat.reducePow, Nat.reduceLT, Nat.reduceLeDiff, Nat.reduceEqDiff, Int.reduceAdd, Int.reduceSub, Int.reduceMul, Int.reduceNeg, Int.reducePow, Int.reduceLT, Int.reduceLE, Int.reduceEq, Int.reduceNe, Int.reduceToNat, Int.toNat_natCast, Nat.zero_add, Nat.add_zero, Nat.mul_one, Nat.one_mul, Bool.not_true, Bool.not_false, ne_eq, not_true_eq_false, not_false_eq_true, Bool.false_eq_true, AV.cells, stA_p, agg_write hw, cell_same]
  generalize kindAt s.lays i = k at *
  generalize nAt s.lays i = m at *
  by_cases k1 : k = 1
  · subst k1
    by_cases k2 : n = m
    · have k2' : ¬ (n ≠ m) := fun q => q k2
      by_cases k3 : 65536 < n
      · rw [e0, if_neg (by omega), if_pos k3] at hK
        subst k2
        simp only [go_sem, reduceIte, Nat.reduceAdd, Nat.reduceSub, Nat.reduceMul, Nat.reducePow, Nat.reduceLT, Nat.reduceLeDiff, Nat.reduceEqDiff, Int.reduceAdd, Int.reduceSub, Int.reduceMul, Int.reduceNeg, Int.reducePow, Int.reduceLT, Int.reduceLE, Int.reduceEq, Int.reduceNe, Int.reduceToNat, Int.toNat_natCast, Nat.zero_add, Nat.add_zero, Nat.mul_one, Nat.one_mul, Bool.not_true, Bool.not_false, ne_eq, not_true_eq_false, not_false_eq_true, Bool.false_eq_true, k3]
        exact hK _ (hf _)
      · rw [e0, if_neg (by omega), if_neg k3, if_neg (by decide)] at hK
        have e1 : IntKind.i64.wrap (1 + n) = 1 + n := i64_id (by omega) (by omega)
        subst k2
        simp only [go_sem, reduceIte, Nat.reduceAdd, Nat.reduceSub, Nat.reduceMul, Nat.reducePow, Nat.reduceLT, Nat.reduceLeDiff, Nat.reduceEqDiff, Int.reduceAdd, Int.reduceSub, Int.reduceMul, Int.reduceNeg, Int.reducePow, Int.reduceLT, Int.reduceLE, Int.reduceEq, Int.reduceNe, Int.reduceToNat, Int.toNat_natCast, Nat.zero_add, Nat.add_zero, Nat.mul_one, Nat.one_mul, Bool.not_true, Bool.not_false, ne_eq, not_true_eq_false, not_false_eq_true, Bool.false_eq_true, k3, e1]
        exact hK _ (hf _)
    · rw [e0, if_pos ⟨rfl, k2⟩] at hK
      simp only [go_sem, reduceIte, Nat.reduceAdd, Nat.reduceSub, Nat.reduceMul, Nat.reducePow, Nat.reduceLT, Nat.reduceLeDiff, Nat.reduceEqDiff, Int.reduceAdd, Int.reduceSub, Int.reduceMul, Int.reduceNeg, Int.reducePow, Int.reduceLT, Int.reduceLE, Int.reduceEq, Int.reduceNe, Int.reduceToNat, Int.toNat_natCast, Nat.zero_add, Nat.add_zero, Nat.mul_one, Nat.one_mul, Bool.not_true, Bool.not_false, ne_eq, not_true_eq_false, not_false_eq_true, Bool.false_eq_true, k2]
      exact hK _ (hf _)
  · have e1 : ¬ (k = 1 ∧ n ≠ m) := fun q => k1 q.1
    by_cases k3 : 65536 < n
    · rw [e0, if_neg e1, if_pos k3] at hK
      simp only [go_sem, reduceIte, Nat.reduceAdd, Nat.reduceSub, Nat.reduceMul, Nat.reducePow, Nat.reduceLT, Nat.reduceLeDiff, Nat.reduceEqDiff, Int.reduceAdd, Int.reduceSub, Int.reduceMul, Int.reduceNeg, Int.reducePow, Int.reduceLT, Int.reduceLE, Int.reduceEq, Int.reduceNe, Int.reduceToNat, Int.toNat_natCast, Nat.zero_add, Nat.add_zero, Nat.mul_one, Nat.one_mul, Bool.not_true, Bool.not_false, ne_eq, not_true_eq_false, not_false_eq_true, Bool.false_eq_true, k1, k3]
      exact hK _ (hf _)
    · by_cases k4 : k = 3
      · subst k4
        rw [e0, if_neg e1, if_neg k3, if_pos rfl] at hK
        have e2 : IntKind.i64.wrap (n + 7) = n + 7 := i64_id (by omega) (by omega)
        have e3 : IntKind.i64.wrap ((n + 7).tdiv 8) = (n + 7) / 8 := by rw [Int.tdiv_eq_ediv_of_nonneg (by omega), i64_id (by omega) (by omega)]
        have e4 : IntKind.i64.wrap (1 + (n + 7) / 8) = 1 + (n + 7) / 8 := i64_id (by omega) (by omega)
        simp only [go_sem, reduceIte, Nat.reduceAdd, Nat.reduceSub, Nat.reduceMul, Nat.reducePow, Nat.reduceLT, Nat.reduceLeDiff, Nat.reduceEqDiff, Int.reduceAdd, Int.reduceSub, Int.reduceMul, Int.reduceNeg, Int.reducePow, Int.reduceLT, Int.reduceLE, Int.reduceEq, Int.reduceNe, Int.reduceToNat, Int.toNat_natCast, Nat.zero_add, Nat.add_zero, Nat.mul_one, Nat.one_mul, Bool.not_true, Bool.not_false, ne_eq, not_true_eq_false, not_false_eq_true, Bool.false_eq_true, k3, e2, e3, e4]
        exact hK _ (hf _)
      · rw [e0, if_neg e1, if_neg k3, if_neg k4] at hK
        have e2 : IntKind.i64.wrap (1 + n) = 1 + n := i64_id (by omega) (by omega)
        simp only [go_sem, reduceIte, Nat.reduceAdd, Nat.reduceSub, Nat.reduceMul, Nat.reducePow, Nat.reduceLT, Nat.reduceLeDiff, Nat.reduceEqDiff, Int.reduceAdd, Int.reduceSub, Int.reduceMul, Int.reduceNeg, Int.reducePow, Int.reduceLT, Int.reduceLE, Int.reduceEq, Int.reduceNe, Int.reduceToNat, Int.toNat_natCast, Nat.zero_add, Nat.add_zero, Nat.mul_one, Nat.one_mul, Bool.not_true, Bool.not_false, ne_eq, not_true_eq_false, not_false_eq_true, Bool.false_eq_true, k1, k3, k4, e2]
        exact hK _ (hf _)
end
end Go.Proofs.Ytljkkfcokpimkaa.X
